/- Rows with empty cells at their ends: widths and lines stand. Rows in blocks of the call's own beside the row of rows. No condition. -/
import Derived.Test.YtofhokggcpeldaaTabMore
namespace Go.Proofs.Ytofhokggcpeldaa
open Go.RowKit Go.Shelf Go.Proofs.Ytofhokggcpeldaa.Table

def padR (n : Nat) (r : Row) : Row := r ++ List.replicate (n - r.length) ⟨#[]⟩
theorem padR_length {n : Nat} {r : Row} (h : r.length ≤ n) : (padR n r).length = n := by simp [padR]; omega
theorem padR_cell (n : Nat) (r : Row) (j : Nat) : cellAt (padR n r) j = cellAt r j := by
  unfold cellAt padR
  rw [List.getD_eq_getElem?_getD, List.getD_eq_getElem?_getD, List.getElem?_append]
  split
  · rfl
  · rw [List.getElem?_eq_none (l := r) (by omega), List.getElem?_replicate]
    split <;> rfl
theorem most_ub {α : Type} {f : α → Nat} {l : List α} {m : Nat} (h : ∀ x ∈ l, f x ≤ m) : most f l ≤ m := by
  induction l with
  | nil => simp [most_nil]
  | cons x l ih =>
    rw [most_cons]
    have := h x (by simp)
    have := ih fun y hy => h y (by simp [hy])
    omega
theorem ask_pad (n : Nat) (r : Row) (k : Nat) : Table.ask (lens (padR n r)) k = if k < r.length then Table.ask (lens r) k else if k < n then 1 else 0 := by
  have hl : (lens (padR n r)).length = r.length + (n - r.length) := by simp [lens, padR]
  unfold Table.ask
  rw [hl, lens_length]
  by_cases h : k < r.length
  · rw [if_pos (by omega), if_pos h, if_pos h]
    congr 1
    simp [lens, padR, List.getD_eq_getElem?_getD, List.getElem?_append, h]
  · rw [if_neg h]
    by_cases h2 : k < n
    · rw [if_pos (by omega), if_pos h2]
      have : (lens (padR n r)).getD k 0 = 0 := by
        simp only [lens, padR, List.getD_eq_getElem?_getD, List.getElem?_map, List.getElem?_append, if_neg h, List.getElem?_replicate]
        split <;> rfl
      rw [this]; rfl
    · rw [if_neg (by omega), if_neg h2]
theorem widths_pad (rows : List Row) : widths (rows.map (padR (widths rows).length)) = widths rows := by
  cases rows with
  | nil => rfl
  | cons r0 rest =>
  generalize hrows : r0 :: rest = rows
  have hmem : r0 ∈ rows := by rw [← hrows]; simp
  have hlen : ∀ r ∈ rows, r.length ≤ (widths rows).length := fun r hr => (widths_row hr).1
  apply ext_getD
  · rw [widths_length (rows.map _)]
    apply Nat.le_antisymm
    · apply most_ub
      intro x hx
      obtain ⟨r, hr, rfl⟩ := List.mem_map.1 hx
      rw [padR_length (hlen r hr)]
      exact Nat.le_refl _
    · have := most_le (f := List.length) (List.mem_map_of_mem (f := padR (widths rows).length) hmem)
      rw [padR_length (hlen r0 hmem)] at this
      exact this
  · intro k
    rw [widths_getD (rows.map _), widths_getD rows k]
    apply Nat.le_antisymm
    · apply most_ub
      intro x hx
      obtain ⟨r, hr, rfl⟩ := List.mem_map.1 hx
      rw [ask_pad]
      split
      · exact most_le (f := fun r => Table.ask (lens r) k) hr
      · split
        · rename_i h
          have hp := widths_pos rows _ (List.getElem_mem h)
          have : (widths rows).getD k 0 = (widths rows)[k] := by rw [List.getD_eq_getElem?_getD, List.getElem?_eq_getElem h]; rfl
          rw [← this, widths_getD] at hp
          exact hp
        · omega
    · apply most_ub
      intro r hr
      have := most_le (f := fun r => Table.ask (lens r) k) (List.mem_map_of_mem (f := padR (widths rows).length) hr)
      refine Nat.le_trans ?_ this
      rw [ask_pad]
      split
      · exact Nat.le_refl _
      · rename_i h
        simp [Table.ask, lens_length, h]
theorem linesS_pad (rows : List Row) : linesS (rows.map (padR (widths rows).length)) = linesS rows := by
  unfold linesS
  rw [widths_pad, List.map_map]
  apply List.map_congr_left
  intro r _
  simp only [Function.comp, lineL]
  rw [lineTo_same _ fun j _ => padR_cell _ r j]
theorem small_pad {rows : List Row} (h : ∀ r ∈ rows, Small r) : ∀ r ∈ rows.map (padR (widths rows).length), Small r := fun x hx => by
  obtain ⟨r, hr, rfl⟩ := List.mem_map.1 hx
  refine ⟨by rw [padR_length (widths_row hr).1]; exact (small_widths h).1, fun c hc => ?_⟩
  unfold padR at hc
  rcases List.mem_append.1 hc with hc | hc
  · exact (h r hr).2 c hc
  · rw [(List.mem_replicate.1 hc).2]; simp [ByteArray.size]

theorem ownsRow_lower {w : World} {base base' : Nat} {e : TypeId} {size : Nat} {v : Value} {n : Nat} {xs : List Value} (h : w.ownsRow base e size v n xs) (hb : base' ≤ base) : w.ownsRow base' e size v n xs := by
  obtain ⟨h1, h2 | ⟨g, cap, cur, hv, hg, r⟩⟩ := h
  · exact ⟨h1, .inl h2⟩
  · exact ⟨h1, .inr ⟨g, cap, cur, hv, Nat.le_trans hb hg, r⟩⟩
def lenV : Value → Nat
  | .slice _ n _ => n
  | _ => 0
theorem pad_snoc (r : Row) (n : Nat) : strCells (r ++ List.replicate (n + 1) ⟨#[]⟩) = strCells (r ++ List.replicate n ⟨#[]⟩) ++ [.string ⟨#[]⟩] := by
  rw [List.replicate_succ', ← List.append_assoc, strCells_snoc]
theorem Strs.slc {w : World} {v : Value} {l : List ByteArray} (h : Strs w v l) : Slc w 1 v l.length (strCells l) := by
  obtain ⟨a, c, rfl, h1, h2, h3⟩ := h
  refine ⟨a, c, rfl, h1, h2, by simp [strCells_length], ?_⟩
  rcases h3 with rfl | ⟨b, o, rfl, hb, hc⟩
  · exact .inl rfl
  · refine .inr ⟨b, o, rfl, hb, fun j u hu => ?_⟩
    obtain ⟨s, hs, rfl⟩ : ∃ s, l[j]? = some s ∧ Value.string s = u := by simpa [strCells] using hu
    exact hc j s hs

/-- us are rows in blocks of the call's own. -/
def RowOwns (w : World) (base : Nat) (us : List Value) (rows : List Row) : Prop :=
  us.length = rows.length ∧ ∀ (i : Nat) (r : Row), rows[i]? = some r → ∃ u, us[i]? = some u ∧ w.ownsRow base 9 1 u r.length (strCells r)
theorem RowOwns.vals {w : World} {base : Nat} {us : List Value} {rows : List Row} (h : RowOwns w base us rows) : RowVals w us rows :=
  ⟨h.1, fun i r hr => let ⟨u, h1, h2⟩ := h.2 i r hr; ⟨u, h1, Strs.of_owns h2⟩⟩
theorem RowOwns.below {B base : Nat} {w w' : World} {us : List Value} {rows : List Row} (h : RowOwns w base us rows) (hb : Below B w w') (hB : w.heap.size ≤ B) : RowOwns w' base us rows :=
  ⟨h.1, fun i r hr => let ⟨u, h1, h2⟩ := h.2 i r hr; ⟨u, h1, ownsRow_below h2 hb hB⟩⟩
theorem RowOwns.snoc {w : World} {base : Nat} {us : List Value} {rows : List Row} {u : Value} {r : Row} (h : RowOwns w base us rows) (hu : w.ownsRow base 9 1 u r.length (strCells r)) : RowOwns w base (us ++ [u]) (rows ++ [r]) := by
  refine ⟨by simp [h.1], fun i r' hr => ?_⟩
  by_cases hi : i < rows.length
  · rw [List.getElem?_append_left hi] at hr
    obtain ⟨u', h1, h2⟩ := h.2 i r' hr
    exact ⟨u', by rw [List.getElem?_append_left (by rw [h.1]; exact hi)]; exact h1, h2⟩
  · have : i = rows.length := by
      have := (List.getElem?_eq_some_iff.1 hr).1
      simp at this; omega
    subst this
    simp at hr
    subst hr
    exact ⟨u, by rw [← h.1]; simp, hu⟩
theorem owns_ne {w : World} {base base' size size' n n' : Nat} {e e' : TypeId} {v v' : Value} {xs xs' : List Value} (h : w.ownsRow base e size v n xs) (h' : w.ownsRow base' e' size' v' n' xs') (he : e ≠ e') : v.ownBlock = none ∨ v.ownBlock ≠ v'.ownBlock := by
  obtain ⟨_, ⟨rfl, _⟩ | ⟨g, cap, cur, rfl, _, hg, _⟩⟩ := h
  · exact .inl rfl
  · refine .inr fun hh => ?_
    obtain ⟨_, ⟨rfl, _⟩ | ⟨g', cap', cur', rfl, _, hg', _⟩⟩ := h'
    · cases hh
    · simp only [Value.ownBlock, Option.some.injEq] at hh
      subst hh
      rw [hg] at hg'
      simp only [Option.some.injEq, Obj.cells.injEq] at hg'
      exact he hg'.2.1
theorem RowOwns.kept {w w' : World} {base base' n : Nat} {us : List Value} {rows : List Row} {v : Value} {xs : List Value} (h : RowOwns w base us rows) (hv : w.ownsRow base' 28 1 v n xs) (hg : w.grownBy w' v.ownBlock) : RowOwns w' base us rows :=
  ⟨h.1, fun i r hr => let ⟨u, h1, h2⟩ := h.2 i r hr; ⟨u, h1, h2.kept hg (owns_ne h2 hv (by decide))⟩⟩
end Go.Proofs.Ytofhokggcpeldaa
