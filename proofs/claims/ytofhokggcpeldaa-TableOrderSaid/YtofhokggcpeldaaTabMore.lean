/- Rows appended to rows of the call's own; lines of more rows. No condition. -/
import Derived.Test.YtofhokggcpeldaaTabLaw
import Derived.Test.YtofhokggcpeldaaSlc
namespace Go.Proofs.Ytofhokggcpeldaa
open Go.RowKit Go.Shelf Go.Proofs.Ytofhokggcpeldaa.Table

theorem Try.infoRow : (Try.prog.info? 28).map (fun i => (i.zero, i.size, i.bytes)) = some (some (.slice none 0 0), 1, 24) := by kernel_rfl
/-- us are the slices of the rows. -/
def RowVals (w : World) (us : List Value) (rows : List Row) : Prop := us.length = rows.length ∧ ∀ (i : Nat) (r : Row), rows[i]? = some r → ∃ u, us[i]? = some u ∧ Strs w u r
theorem RowVals.below {B : Nat} {w w' : World} {us : List Value} {rows : List Row} (h : RowVals w us rows) (hb : Below B w w') (hB : w.heap.size ≤ B) : RowVals w' us rows :=
  ⟨h.1, fun i r hr => let ⟨u, h1, h2⟩ := h.2 i r hr; ⟨u, h1, h2.below hb hB⟩⟩
theorem RowVals.append {w : World} {us vs : List Value} {a b : List Row} (h : RowVals w us a) (h' : RowVals w vs b) : RowVals w (us ++ vs) (a ++ b) := by
  refine ⟨by simp [h.1, h'.1], fun i r hr => ?_⟩
  by_cases hi : i < a.length
  · rw [List.getElem?_append_left hi] at hr
    obtain ⟨u, h1, h2⟩ := h.2 i r hr
    exact ⟨u, by rw [List.getElem?_append_left (by rw [h.1]; exact hi)]; exact h1, h2⟩
  · rw [List.getElem?_append_right (by omega)] at hr
    obtain ⟨u, h1, h2⟩ := h'.2 _ r hr
    exact ⟨u, by rw [List.getElem?_append_right (by rw [h.1]; omega), h.1]; exact h1, h2⟩
theorem RowVals.one {w : World} {u : Value} {r : Row} (h : Strs w u r) : RowVals w [u] [r] :=
  ⟨rfl, fun i r' hr => by
    cases i with
    | zero => simp at hr; subst hr; exact ⟨u, rfl, h⟩
    | succ i => simp at hr⟩
theorem RowVals.oneCell {w : World} {us : List Value} {rows : List Row} (h : RowVals w us rows) : ∀ u ∈ us, u.oneCell' = true := fun u hu => by
  obtain ⟨i, hi⟩ := List.mem_iff_getElem?.1 hu
  have hlt := (List.getElem?_eq_some_iff.1 hi).1
  rw [h.1] at hlt
  obtain ⟨u', h1, h2⟩ := h.2 i rows[i] (List.getElem?_eq_getElem hlt)
  rw [hi] at h1
  cases h1
  obtain ⟨a, c, rfl, _⟩ := h2
  rfl
theorem TRows.vals {w : World} {v : Value} {rows : List Row} (h : TRows w v rows) : ∃ us, Slc w 1 v rows.length us ∧ RowVals w us rows := by
  obtain ⟨a, cap, rfl, h1, h2, h3⟩ := h
  obtain ⟨us, hl, hp⟩ := pick_list (p := fun i (u : Value) => (∃ b o, a = some ⟨b, o, none⟩ ∧ b < w.heap.size ∧ w.cell? ⟨b, o + i, none⟩ = some u) ∧ ∀ r, rows[i]? = some r → Strs w u r) rows.length (fun i hi => by
    obtain ⟨b, o, u, ha, hb, hc, hs⟩ := h3 i rows[i] (List.getElem?_eq_getElem hi)
    exact ⟨u, ⟨b, o, ha, hb, hc⟩, fun r hr => by rw [List.getElem?_eq_getElem hi] at hr; cases hr; exact hs⟩)
  refine ⟨us, ⟨a, cap, rfl, h1, h2, by omega, ?_⟩, hl, fun i r hr => ?_⟩
  · by_cases h0 : rows.length = 0
    · exact .inl h0
    · have hpos : 0 < us.length := by omega
      obtain ⟨⟨b, o, rfl, hb, _⟩, _⟩ := hp 0 us[0] (List.getElem?_eq_getElem hpos)
      refine .inr ⟨b, o, rfl, hb, fun j u hu => ?_⟩
      obtain ⟨⟨b', o', e, _, hc⟩, _⟩ := hp j u hu
      simp only [Option.some.injEq, Addr.mk.injEq] at e
      obtain ⟨rfl, rfl, _⟩ := e
      exact hc
  · have hi : i < us.length := by rw [hl]; exact (List.getElem?_eq_some_iff.1 hr).1
    exact ⟨us[i], List.getElem?_eq_getElem hi, (hp i us[i] (List.getElem?_eq_getElem hi)).2 r hr⟩
theorem TRows.of_vals {w : World} {v : Value} {us : List Value} {rows : List Row} (h : Slc w 1 v rows.length us) (hr : RowVals w us rows) : TRows w v rows := by
  obtain ⟨a, cap, rfl, h1, h2, h3, h4⟩ := h
  refine ⟨a, cap, rfl, h1, h2, fun i r hi => ?_⟩
  obtain ⟨u, hu, hs⟩ := hr.2 i r hi
  rcases h4 with h0 | ⟨b, o, rfl, hb, hc⟩
  · have := (List.getElem?_eq_some_iff.1 hi).1; omega
  · exact ⟨b, o, u, rfl, hb, hc i u hu, hs⟩
theorem TRows.of_owns {w : World} {base : Nat} {e : TypeId} {v : Value} {us : List Value} {rows : List Row} (h : w.ownsRow base e 1 v rows.length us) (hr : RowVals w us rows) : TRows w v rows := TRows.of_vals (Slc.of_owns h) hr

theorem linesS_snoc {rows : List Row} {r : Row} (h : widths (rows ++ [r]) = widths rows) : linesS (rows ++ [r]) = linesS rows ++ [mkS (lineL (widths rows) r)] := by
  unfold linesS; rw [h]; simp
theorem fits_of {rows : List Row} {r : Row} (h : ∀ k (c : ByteArray), r[k]? = some c → c.size ≤ (widths rows).getD k 0) : Fits (widths rows) r := fun k => by
  refine .inl ?_
  cases hk : r[k]? with
  | none => simp [cellAt, List.getD_eq_getElem?_getD, hk, ByteArray.size]
  | some c => simpa [cellAt, List.getD_eq_getElem?_getD, hk] using h k c hk
end Go.Proofs.Ytofhokggcpeldaa
