/- The programs of CheckerChain: what the checker says of them. No condition. -/
import Derived.Test.YtgimdbflpdmlmaaCkFwd
namespace Go.Proofs.Ytgimdbflpdmlmaa
set_option maxRecDepth 100000
open Go.RowKit Go.Shelf Go.Proofs.Ytgimdbflpdmlmaa.Ck

/-- The name of the function with number i. -/
def nmC (i : Nat) : ByteArray := ⟨#[102]⟩ ++ mkS (List.replicate (i / 20) 97) ++ ⟨#[UInt8.ofNat (97 + i % 20)]⟩
def nmK (k i : Nat) : ByteArray := if i + 1 = k then sMain else nmC i
def chainF (k i : Nat) : Fu := ⟨nmK k i, [], [], if i = 0 then [] else [callS (nmC (i - 1))]⟩
def chainP (k : Nat) : Pr := ⟨[], [], (List.range k).map (chainF k)⟩
theorem fits_chain1 : ∀ k, k < 121 → (decide (∀ x ∈ (chainP k).vars, x.size ≤ 1000000) && decide (∀ x ∈ (chainP k).arrays, x.1.size ≤ 1000000) && decide (∀ f ∈ (chainP k).funcs, f.name.size ≤ 1000000 ∧ (∀ x ∈ f.params, x.size ≤ 1000000) ∧ ∀ x ∈ f.locals, x.size ≤ 1000000)) = true := by decide +kernel
theorem fits_chain2 : ∀ k, k < 121 → (chainP k).vars.length + (chainP k).arrays.length + ((chainP k).funcs.map fun f => 4 + f.params.length + f.locals.length + 5 * nodesS f.body).sum ≤ 100000000 := by decide +kernel
theorem fits_chain {k : Nat} (hk : k < 121) : Fits (chainP k) := fits_small (fits_chain1 k hk) (fits_chain2 k hk)
set_option maxHeartbeats 20000000 in
theorem chain_0 : ∀ i, i < 10 → check (chainP (1 + i)) = (⟨#[]⟩, 0) := by decide +kernel
set_option maxHeartbeats 20000000 in
theorem chain_1 : ∀ i, i < 10 → check (chainP (11 + i)) = (⟨#[]⟩, 0) := by decide +kernel
set_option maxHeartbeats 20000000 in
theorem chain_2 : ∀ i, i < 10 → check (chainP (21 + i)) = (⟨#[]⟩, 0) := by decide +kernel
set_option maxHeartbeats 20000000 in
theorem chain_3 : ∀ i, i < 10 → check (chainP (31 + i)) = (⟨#[]⟩, 0) := by decide +kernel
set_option maxHeartbeats 20000000 in
theorem chain_4 : ∀ i, i < 10 → check (chainP (41 + i)) = (⟨#[]⟩, 0) := by decide +kernel
set_option maxHeartbeats 20000000 in
theorem chain_5 : ∀ i, i < 10 → check (chainP (51 + i)) = (⟨#[]⟩, 0) := by decide +kernel
set_option maxHeartbeats 20000000 in
theorem chain_6 : ∀ i, i < 4 → check (chainP (61 + i)) = (⟨#[109, 97, 105, 110]⟩, 6) := by decide +kernel
set_option maxHeartbeats 20000000 in
theorem chain_7 : ∀ i, i < 4 → check (chainP (65 + i)) = (⟨#[109, 97, 105, 110]⟩, 6) := by decide +kernel
set_option maxHeartbeats 20000000 in
theorem chain_8 : ∀ i, i < 4 → check (chainP (69 + i)) = (⟨#[109, 97, 105, 110]⟩, 6) := by decide +kernel
set_option maxHeartbeats 20000000 in
theorem chain_9 : ∀ i, i < 4 → check (chainP (73 + i)) = (⟨#[109, 97, 105, 110]⟩, 6) := by decide +kernel
set_option maxHeartbeats 20000000 in
theorem chain_10 : ∀ i, i < 4 → check (chainP (77 + i)) = (⟨#[109, 97, 105, 110]⟩, 6) := by decide +kernel
set_option maxHeartbeats 20000000 in
theorem chain_11 : ∀ i, i < 4 → check (chainP (81 + i)) = (⟨#[109, 97, 105, 110]⟩, 6) := by decide +kernel
set_option maxHeartbeats 20000000 in
theorem chain_12 : ∀ i, i < 4 → check (chainP (85 + i)) = (⟨#[109, 97, 105, 110]⟩, 6) := by decide +kernel
set_option maxHeartbeats 20000000 in
theorem chain_13 : ∀ i, i < 4 → check (chainP (89 + i)) = (⟨#[109, 97, 105, 110]⟩, 6) := by decide +kernel
set_option maxHeartbeats 20000000 in
theorem chain_14 : ∀ i, i < 4 → check (chainP (93 + i)) = (⟨#[109, 97, 105, 110]⟩, 6) := by decide +kernel
set_option maxHeartbeats 20000000 in
theorem chain_15 : ∀ i, i < 4 → check (chainP (97 + i)) = (⟨#[109, 97, 105, 110]⟩, 6) := by decide +kernel
set_option maxHeartbeats 20000000 in
theorem chain_16 : ∀ i, i < 4 → check (chainP (101 + i)) = (⟨#[109, 97, 105, 110]⟩, 6) := by decide +kernel
set_option maxHeartbeats 20000000 in
theorem chain_17 : ∀ i, i < 4 → check (chainP (105 + i)) = (⟨#[109, 97, 105, 110]⟩, 6) := by decide +kernel
set_option maxHeartbeats 20000000 in
theorem chain_18 : ∀ i, i < 4 → check (chainP (109 + i)) = (⟨#[109, 97, 105, 110]⟩, 6) := by decide +kernel
set_option maxHeartbeats 20000000 in
theorem chain_19 : ∀ i, i < 4 → check (chainP (113 + i)) = (⟨#[109, 97, 105, 110]⟩, 6) := by decide +kernel
set_option maxHeartbeats 20000000 in
theorem chain_20 : ∀ i, i < 4 → check (chainP (117 + i)) = (⟨#[109, 97, 105, 110]⟩, 6) := by decide +kernel
theorem check_chain {k : Nat} (h1 : 1 ≤ k) (h2 : k ≤ 120) : check (chainP k) = if k ≤ 60 then (⟨#[]⟩, 0) else (⟨#[109, 97, 105, 110]⟩, 6) := by
  by_cases g0 : k < 11
  · have h := chain_0 (k - 1) (by omega)
    rw [show 1 + (k - 1) = k by omega] at h
    rw [h, if_pos (by omega)]
  by_cases g1 : k < 21
  · have h := chain_1 (k - 11) (by omega)
    rw [show 11 + (k - 11) = k by omega] at h
    rw [h, if_pos (by omega)]
  by_cases g2 : k < 31
  · have h := chain_2 (k - 21) (by omega)
    rw [show 21 + (k - 21) = k by omega] at h
    rw [h, if_pos (by omega)]
  by_cases g3 : k < 41
  · have h := chain_3 (k - 31) (by omega)
    rw [show 31 + (k - 31) = k by omega] at h
    rw [h, if_pos (by omega)]
  by_cases g4 : k < 51
  · have h := chain_4 (k - 41) (by omega)
    rw [show 41 + (k - 41) = k by omega] at h
    rw [h, if_pos (by omega)]
  by_cases g5 : k < 61
  · have h := chain_5 (k - 51) (by omega)
    rw [show 51 + (k - 51) = k by omega] at h
    rw [h, if_pos (by omega)]
  by_cases g6 : k < 65
  · have h := chain_6 (k - 61) (by omega)
    rw [show 61 + (k - 61) = k by omega] at h
    rw [h, if_neg (by omega)]
  by_cases g7 : k < 69
  · have h := chain_7 (k - 65) (by omega)
    rw [show 65 + (k - 65) = k by omega] at h
    rw [h, if_neg (by omega)]
  by_cases g8 : k < 73
  · have h := chain_8 (k - 69) (by omega)
    rw [show 69 + (k - 69) = k by omega] at h
    rw [h, if_neg (by omega)]
  by_cases g9 : k < 77
  · have h := chain_9 (k - 73) (by omega)
    rw [show 73 + (k - 73) = k by omega] at h
    rw [h, if_neg (by omega)]
  by_cases g10 : k < 81
  · have h := chain_10 (k - 77) (by omega)
    rw [show 77 + (k - 77) = k by omega] at h
    rw [h, if_neg (by omega)]
  by_cases g11 : k < 85
  · have h := chain_11 (k - 81) (by omega)
    rw [show 81 + (k - 81) = k by omega] at h
    rw [h, if_neg (by omega)]
  by_cases g12 : k < 89
  · have h := chain_12 (k - 85) (by omega)
    rw [show 85 + (k - 85) = k by omega] at h
    rw [h, if_neg (by omega)]
  by_cases g13 : k < 93
  · have h := chain_13 (k - 89) (by omega)
    rw [show 89 + (k - 89) = k by omega] at h
    rw [h, if_neg (by omega)]
  by_cases g14 : k < 97
  · have h := chain_14 (k - 93) (by omega)
    rw [show 93 + (k - 93) = k by omega] at h
    rw [h, if_neg (by omega)]
  by_cases g15 : k < 101
  · have h := chain_15 (k - 97) (by omega)
    rw [show 97 + (k - 97) = k by omega] at h
    rw [h, if_neg (by omega)]
  by_cases g16 : k < 105
  · have h := chain_16 (k - 101) (by omega)
    rw [show 101 + (k - 101) = k by omega] at h
    rw [h, if_neg (by omega)]
  by_cases g17 : k < 109
  · have h := chain_17 (k - 105) (by omega)
    rw [show 105 + (k - 105) = k by omega] at h
    rw [h, if_neg (by omega)]
  by_cases g18 : k < 113
  · have h := chain_18 (k - 109) (by omega)
    rw [show 109 + (k - 109) = k by omega] at h
    rw [h, if_neg (by omega)]
  by_cases g19 : k < 117
  · have h := chain_19 (k - 113) (by omega)
    rw [show 113 + (k - 113) = k by omega] at h
    rw [h, if_neg (by omega)]
  by_cases g20 : k < 121
  · have h := chain_20 (k - 117) (by omega)
    rw [show 117 + (k - 117) = k by omega] at h
    rw [h, if_neg (by omega)]
  omega
end Go.Proofs.Ytgimdbflpdmlmaa
