/- The programs of CheckerForward: what the checker says of them; their names. No condition. -/
import Derived.Test.YtgimdbflpdmlmaaCkAlive
import Derived.Laws.IdiomStrings
namespace Go.Proofs.Ytgimdbflpdmlmaa
set_option maxRecDepth 100000
open Go.RowKit Go.Shelf Go.Proofs.Ytgimdbflpdmlmaa.Ck

def nmF (k i : Nat) : ByteArray := if i + 1 = k then sMain else ⟨#[102, UInt8.ofNat (97 + i)]⟩
def callS (name : ByteArray) : St := .mk 6 ⟨#[]⟩ [] [.mk sCall 0 name []] [] []
def fwdF (k i j x : Nat) : Fu := ⟨nmF k x, [], [], if x = i then [callS (nmF k j)] else []⟩
def fwdP (k i j : Nat) : Pr := ⟨[], [], (List.range k).map (fwdF k i j)⟩
theorem check_fwd : ∀ k, k < 10 → 2 ≤ k → ∀ i, i < k → ∀ j, j < k → check (fwdP k i j) = if j < i then (⟨#[]⟩, 0) else (nmF k j, 7) := by decide +kernel
theorem fits_fwd1 : ∀ k, k < 10 → ∀ i, i < k → ∀ j, j < k → (decide (∀ x ∈ (fwdP k i j).vars, x.size ≤ 1000000) && decide (∀ x ∈ (fwdP k i j).arrays, x.1.size ≤ 1000000) && decide (∀ f ∈ (fwdP k i j).funcs, f.name.size ≤ 1000000 ∧ (∀ x ∈ f.params, x.size ≤ 1000000) ∧ ∀ x ∈ f.locals, x.size ≤ 1000000)) = true := by decide +kernel
theorem fits_fwd2 : ∀ k, k < 10 → ∀ i, i < k → ∀ j, j < k → (fwdP k i j).vars.length + (fwdP k i j).arrays.length + ((fwdP k i j).funcs.map fun f => 4 + f.params.length + f.locals.length + 5 * nodesS f.body).sum ≤ 100000000 := by decide +kernel
theorem fits_fwd {k i j : Nat} (hk : k < 10) (hi : i < k) (hj : j < k) : Fits (fwdP k i j) := fits_small (fits_fwd1 k hk i hi j hj) (fits_fwd2 k hk i hi j hj)
theorem nm_last {k i : Nat} (h : i + 1 = k) : nmF k i = ⟨#[109, 97, 105, 110]⟩ := by unfold nmF; rw [if_pos h]; rfl
set_option maxHeartbeats 4000000 in
theorem name_any {w : World} {b k i : Nat} (hc : w.cell? ⟨b, 0, none⟩ = some (.int .i64 k)) (hk : k < 10) (hi : i < k) :
    Calls Try.prog 19 #[.int .i64 i, .pointer (some ⟨b, 0, none⟩)] w fun e w' => e = .returned (.string (nmF k i)) ∧ Below w.heap.size w w' := by
  go_enter Try.func19, Try.ntmps19
  by_cases h : i + 1 = k
  · have h1 : ((i : Int) == (k : Int) - 1) = true := by rw [beq_iff_eq]; omega
    rw [nm_last h]
    go_wp2_with fail
    go_ret
    exact ⟨rfl, Below.refl _ _⟩
  · have h1 : ((i : Int) == (k : Int) - 1) = false := by rw [beq_eq_false_iff_ne]; omega
    have hbyte : ((UInt8.ofNat (97 + i)).toNat : Int) = 97 + (i : Int) := by
      have : (UInt8.ofNat (97 + i)).toNat = (97 + i) % 256 := UInt8.toNat_ofNat'
      omega
    have HN0 : nmF k i = ⟨#[102, UInt8.ofNat (97 + i)]⟩ := by unfold nmF; rw [if_neg h]
    generalize UInt8.ofNat (97 + i) = c at *
    have HN := Keep.mk HN0
    have hcv : (convert 49 9 (.slice (some ⟨w.heap.size, 0, none⟩) 1 1)).run Try.prog (w.alloc (.cells #[.int .u8 (97 + (i : Int))] 5)) = .ok (.string ⟨#[c]⟩) (w.alloc (.cells #[.int .u8 (97 + (i : Int))] 5)) :=
      run_convert_bytes_back _ 49 9 5 ⟨w.heap.size, 0, none⟩ 1 [c] Try.underlying49 Try.underlying5 Try.underlying9 (fun j hj => by
        have h0 : j = 0 := by simpa using hj
        subst h0
        have e : (w.alloc (.cells #[.int .u8 (97 + (i : Int))] 5)).heap[w.heap.size]? = some (.cells #[.int .u8 (97 + (i : Int))] 5 (0, 0)) := heap_alloc_new w _
        generalize (w.alloc (.cells #[.int .u8 (97 + (i : Int))] 5)) = W at *
        show W.cell? ⟨w.heap.size, 0 + 0, none⟩ = some (.int .u8 (c.toNat : Int))
        rw [hbyte]
        simp [World.cell?, e])
    have HCAT : Keep ((⟨#[102]⟩ : ByteArray) ++ ⟨#[c]⟩ = ⟨#[102, c]⟩) := ⟨rfl⟩
    clear hbyte HN0
    go_wp2_with fail
    go_ret
    refine ⟨?_, (Below.refl _ _).alloc (Nat.le_refl _) _⟩
    rw [HN.out, ← HCAT.out]
    rfl
end Go.Proofs.Ytgimdbflpdmlmaa
