/- What the laws over tables share: the greatest rows; the length of a line; places in a line. No condition. -/
import Derived.Test.YtofhokggcpeldaaTableLines
namespace Go.Proofs.Ytofhokggcpeldaa
open Go.RowKit Go.Shelf Go.Proofs.Ytofhokggcpeldaa.Table

theorem posL_le {ws : List Nat} (h : Slim ws) : ∀ k, posL ws k ≤ 1 + 33 * k
  | 0 => Nat.le_refl _
  | k + 1 => by have := h.2 k; have := posL_le h k; rw [posL]; omega
theorem posL_pos (ws : List Nat) : ∀ k, 1 ≤ posL ws k
  | 0 => Nat.le_refl _
  | k + 1 => by have := posL_pos ws k; rw [posL]; omega
theorem posL_mono (ws : List Nat) : ∀ {j k}, j ≤ k → posL ws j ≤ posL ws k
  | j, 0, h => by rw [show j = 0 by omega]; exact Nat.le_refl _
  | j, k + 1, h => by
    by_cases e : j = k + 1
    · rw [e]; exact Nat.le_refl _
    · have := posL_mono ws (j := j) (k := k) (by omega)
      rw [posL]; omega
theorem line_length {ws : List Nat} {r : Row} (h : Fits ws r) : (lineL ws r).length = posL ws ws.length := lineTo_length h _ (Nat.le_refl _)
theorem line_head (ws : List Nat) (r : Row) : (lineL ws r)[0]? = some 124 := by
  unfold lineL
  induction ws.length with
  | zero => rfl
  | succ k ih =>
    rw [lineTo, List.getElem?_append_left]
    · exact ih
    · obtain ⟨hh, _⟩ := List.getElem?_eq_some_iff.1 ih; exact hh
/-- A line from a column on. -/
theorem line_drop {ws : List Nat} {r : Row} (h : Fits ws r) {k : Nat} (hk : k < ws.length) : ∃ rest, (lineL ws r).drop (posL ws k) = padL (ws.getD k 0) (cellAt r k).data.toList ++ rest := by
  obtain ⟨rest, hr⟩ := lineTo_part ws r k ws.length hk
  refine ⟨rest, ?_⟩
  rw [lineL, hr, ← lineTo_length h k (by omega), List.drop_left]
theorem line_at {ws : List Nat} {r : Row} (h : Fits ws r) {k j : Nat} (hk : k < ws.length) (hj : j < ws.getD k 0 + 3) : (lineL ws r)[posL ws k + j]? = (padL (ws.getD k 0) (cellAt r k).data.toList)[j]? := by
  obtain ⟨rest, hr⟩ := line_drop h hk
  rw [← List.getElem?_drop, hr, List.getElem?_append_left]
  have h1 : (cellAt r k).data.toList.length ≤ ws.getD k 0 := by
    rcases h k with h | h
    · simpa using h
    · omega
  rw [padL_length h1]; exact hj
theorem pad_bar {w : Nat} {c : List UInt8} (h : c.length ≤ w) : (padL w c)[w + 2]? = some 124 := by
  unfold padL
  rw [List.getElem?_cons_succ, List.getElem?_append_right (by omega), List.getElem?_append_right (by simp; omega)]
  simp
  rw [show w + 1 - c.length - (w - c.length) = 1 by omega]; rfl
/-- The bar behind a column. -/
theorem line_bar {ws : List Nat} {r : Row} (h : Fits ws r) {k : Nat} (hk : k < ws.length) : (lineL ws r)[posL ws (k + 1) - 1]? = some 124 := by
  have h1 : (cellAt r k).data.toList.length ≤ ws.getD k 0 := by
    rcases h k with h | h
    · simpa using h
    · omega
  rw [posL, show posL ws k + (ws.getD k 0 + 3) - 1 = posL ws k + (ws.getD k 0 + 2) by omega, line_at h hk (by omega), pad_bar h1]
theorem byte_of {S : ByteArray} {l : List UInt8} (h : S = mkS l) {i : Nat} {c : UInt8} (hc : l[i]? = some c) : ∃ hi : i < S.size, S[i] = c := by
  have e : l = S.data.toList := by rw [h, data_mkS]
  rw [e] at hc
  obtain ⟨h1, h2⟩ := List.getElem?_eq_some_iff.1 hc
  exact ⟨by simpa using h1, h2⟩

set_option maxHeartbeats 400000 in
theorem length51_any (x : Value) (ws : List Nat) (w : World) (hx : Nums w x ws) (hs : Slim ws) :
    Calls Try.prog 17 #[x] w fun e w' => e = .returned (.int .i64 (posL ws ws.length)) ∧ w = w' := by
  obtain ⟨a, c, rfl, h1, h2, h3⟩ := hx
  have H3 := Keep.mk h3
  have HS := Keep.mk hs
  have hw8 := hs.1
  unfold maxLen at h2
  clear h3 hs
  go_enter Try.func17, Try.ntmps17
  go_wp2
  go_loop [3, 8] (fun n i => ∃ k m : Nat, k ≤ ws.length ∧ i = .int .i64 k ∧ n = .int .i64 m ∧ m ≤ 1 + 33 * k ∧ Keep (m = posL ws k)) (fun _ i => ws.length - (intOf i).toNat)
  case atStart => exact ⟨0, 1, Nat.zero_le _, rfl, rfl, Nat.le_refl _, ⟨rfl⟩⟩
  case round =>
    obtain ⟨k, m, hk, rfl, rfl, hm, hM⟩ := hrel
    by_cases hlt : k < ws.length
    · obtain ⟨b, o, rfl, hb, hc⟩ := H3.out k (ws.getD k 0) (by rw [List.getD_eq_getElem?_getD, List.getElem?_eq_getElem hlt]; rfl)
      have hwk := HS.out.2 k
      have hstep : Keep (posL ws (k + 1) = m + (ws.getD k 0 + 3)) := ⟨by rw [posL, hM.out]⟩
      generalize ws.getD k 0 = y at *
      go_wp2
      go_round
      case rel => exact ⟨k + 1, m + (y + 3), by omega, by go_num, by go_num, by omega, ⟨hstep.out.symm⟩⟩
      case measure => simp [intOf]; omega
    · have hfin : Keep (m = posL ws ws.length) := ⟨by rw [hM.out, show k = ws.length by omega]⟩
      go_wp2
      go_ret
      exact ⟨by rw [← hfin.out]; rfl, rfl⟩
end Go.Proofs.Ytofhokggcpeldaa
