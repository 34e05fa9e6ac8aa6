/- Two elements exchanged: of rows, of lines; in a row of the call's own. No condition. -/
import Derived.Test.YtofhokggcpeldaaTabMore
namespace Go.Proofs.Ytofhokggcpeldaa
open Go.RowKit Go.Shelf Go.Proofs.Ytofhokggcpeldaa.Table

def swp {α : Type} (d : α) (l : List α) (i j : Nat) : List α := (l.set i (l.getD j d)).set j (l.getD i d)
theorem swp_length {α : Type} (d : α) (l : List α) (i j : Nat) : (swp d l i j).length = l.length := by simp [swp]
theorem swp_get {α : Type} {d : α} {l : List α} {i j : Nat} (hi : i < l.length) (hj : j < l.length) (k : Nat) : (swp d l i j)[k]? = if k = j then l[i]? else if k = i then l[j]? else l[k]? := by
  unfold swp
  rw [List.getElem?_set, List.getElem?_set]
  simp only [List.length_set, List.getD_eq_getElem?_getD]
  by_cases h1 : j = k
  · subst h1; simp [hi, hj]
  · have h1' : ¬ k = j := fun h => h1 h.symm
    by_cases h2 : i = k
    · subst h2; simp [h1, h1', hi, hj]
    · have h2' : ¬ k = i := fun h => h2 h.symm
      simp [h1, h1', h2, h2']
theorem swp_map {α β : Type} {d : α} {d' : β} (f : α → β) {l : List α} {i j : Nat} (hi : i < l.length) (hj : j < l.length) : (swp d l i j).map f = swp d' (l.map f) i j := by
  apply List.ext_getElem?
  intro k
  rw [List.getElem?_map, swp_get hi hj, swp_get (by simpa using hi) (by simpa using hj)]
  simp only [List.getElem?_map]
  split
  · rfl
  · split <;> rfl
theorem swp_swp {α : Type} {d : α} {l : List α} {i j : Nat} (hi : i < l.length) (hj : j < l.length) : swp d (swp d l i j) i j = l := by
  apply List.ext_getElem?
  intro k
  have hl := swp_length d l i j
  rw [swp_get (by omega) (by omega), swp_get hi hj, swp_get hi hj, swp_get hi hj]
  by_cases h1 : k = j
  · subst h1; by_cases h2 : i = k
    · subst h2; simp
    · simp [h2]
  · rw [if_neg h1]
    by_cases h2 : k = i
    · subst h2; simp
    · rw [if_neg h2, if_neg h1, if_neg h2]
theorem swp_perm {α : Type} (d : α) {l : List α} {i j : Nat} (hi : i < l.length) (hj : j < l.length) : (swp d l i j).Perm l := by
  have h := List.set_set_perm hi hj
  unfold swp
  rw [List.getD_eq_getElem?_getD, List.getD_eq_getElem?_getD, List.getElem?_eq_getElem hi, List.getElem?_eq_getElem hj]
  exact h
theorem linesS_swp {rows : List Row} {i j : Nat} (hi : i < rows.length) (hj : j < rows.length) : linesS (swp [] rows i j) = swp ⟨#[]⟩ (linesS rows) i j := by
  unfold linesS
  rw [widths_perm (swp_perm [] hi hj), swp_map (d' := ⟨#[]⟩) _ hi hj]
theorem small_swp {rows : List Row} {i j : Nat} (hi : i < rows.length) (hj : j < rows.length) (h : ∀ r ∈ rows, Small r) : ∀ r ∈ swp [] rows i j, Small r := fun r hr => h r ((swp_perm [] hi hj).mem_iff.1 hr)
theorem RowVals.swp {w : World} {us : List Value} {rows : List Row} {i j : Nat} (h : RowVals w us rows) (hi : i < rows.length) (hj : j < rows.length) : RowVals w (swp undef us i j) (swp [] rows i j) := by
  refine ⟨by rw [swp_length, swp_length, h.1], fun k r hr => ?_⟩
  rw [swp_get hi hj] at hr
  rw [swp_get (by rw [h.1]; exact hi) (by rw [h.1]; exact hj)]
  split at hr
  · rename_i e; rw [if_pos e]; exact h.2 i r hr
  · rename_i e; rw [if_neg e]
    split at hr
    · rename_i e; rw [if_pos e]; exact h.2 j r hr
    · rename_i e; rw [if_neg e]; exact h.2 k r hr
theorem strCells_swp {l : List ByteArray} {i j : Nat} (hi : i < l.length) (hj : j < l.length) : strCells (swp ⟨#[]⟩ l i j) = swp undef (strCells l) i j := swp_map _ hi hj
theorem ownsRow_lead {w : World} {base size n : Nat} {e : TypeId} {v : Value} {xs : List Value} (h : w.ownsRow base e size v n xs) (hn : 0 < n) : ∃ g cap, v = .slice (some ⟨g, 0, none⟩) n cap ∧ n ≤ cap ∧ cap ≤ maxLen := by
  obtain ⟨_, ⟨rfl, h0⟩ | ⟨g, cap, cur, rfl, _, _, h1, h2, _⟩⟩ := h
  · omega
  · exact ⟨g, cap, rfl, h1, h2⟩
/-- The exchange, as a walk leaves it. -/
theorem ownsRow_swp {w : World} {base g n cap : Nat} {e : TypeId} {xs : List Value} {i j : Nat} {u v : Value} (h : w.ownsRow base e 1 (.slice (some ⟨g, 0, none⟩) n cap) n xs) (hu : xs[j]? = some u) (hv : xs[i]? = some v) :
    ((w.setCell ⟨g, i, none⟩ u).setCell ⟨g, j, none⟩ v).ownsRow base e 1 (.slice (some ⟨g, 0, none⟩) n cap) n (swp undef xs i j) ∧ Below base w ((w.setCell ⟨g, i, none⟩ u).setCell ⟨g, j, none⟩ v) := by
  have hg := (h.lt g rfl).1
  have h1 := (h.stored i u).1
  have h2 := (h1.stored j v).1
  refine ⟨?_, ((Below.refl _ _).setCell (p := ⟨g, i, none⟩) hg _).setCell (p := ⟨g, j, none⟩) hg _⟩
  unfold swp
  rw [List.getD_eq_getElem?_getD, List.getD_eq_getElem?_getD, hu, hv]
  exact h2
end Go.Proofs.Ytofhokggcpeldaa
