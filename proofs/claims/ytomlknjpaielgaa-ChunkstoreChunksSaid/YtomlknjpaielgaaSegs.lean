/- A slice of segments that lies in memory, read as a list: each of two cells, the number of zeros and the data. -/
import Derived.Test.YtomlknjpaielgaaSparseMath
namespace Go.Proofs.Ytomlknjpaielgaa
set_option maxRecDepth 100000
open Go.RowKit Go.Shelf Go.Proofs.Ytomlknjpaielgaa.Sparse

def segCells (l : List Seg) : List Value := l.flatMap fun s => [.int .i64 s.1, .string (mkS s.2)]
theorem segCells_nil : segCells [] = [] := rfl
theorem segCells_cons (s : Seg) (l : List Seg) : segCells (s :: l) = .int .i64 s.1 :: .string (mkS s.2) :: segCells l := rfl
theorem segCells_append (l m : List Seg) : segCells (l ++ m) = segCells l ++ segCells m := by simp [segCells]
theorem segCells_length : ∀ l : List Seg, (segCells l).length = l.length * 2
  | [] => rfl
  | s :: l => by rw [segCells_cons, List.length_cons, List.length_cons, segCells_length l, List.length_cons]; omega
theorem segCells_get : ∀ (l : List Seg) (i : Nat) (s : Seg), l[i]? = some s → (segCells l)[i * 2]? = some (.int .i64 s.1) ∧ (segCells l)[i * 2 + 1]? = some (.string (mkS s.2))
  | [], i, s, h => by simp at h
  | a :: l, 0, s, h => by
    simp only [List.getElem?_cons_zero, Option.some.injEq] at h
    subst h
    exact ⟨rfl, rfl⟩
  | a :: l, i + 1, s, h => by
    rw [List.getElem?_cons_succ] at h
    obtain ⟨h1, h2⟩ := segCells_get l i s h
    rw [segCells_cons, show (i + 1) * 2 = i * 2 + 1 + 1 by omega]
    exact ⟨h1, h2⟩

/-- The cells of the segments l lie in w from ⟨b, o⟩ on. -/
def SegsAt (w : World) (b o : Nat) (l : List Seg) : Prop :=
  ∀ i s, l[i]? = some s → w.cell? ⟨b, o + i * 2, none⟩ = some (.int .i64 s.1) ∧ w.cell? ⟨b, o + i * 2 + 1, none⟩ = some (.string (mkS s.2))

/-- v is a slice that holds the segments l in the world w. -/
def Segs (w : World) (v : Value) (l : List Seg) : Prop :=
  ∃ a cap, v = .slice a l.length cap ∧ l.length ≤ cap ∧ cap ≤ maxLen ∧ (l = [] ∨ ∃ b o, a = some ⟨b, o, none⟩ ∧ b < w.heap.size ∧ SegsAt w b o l)

theorem SegsAt.below {B : Nat} {w w' : World} {b o : Nat} {l : List Seg} (h : SegsAt w b o l) (hb : Below B w w') (hB : b < B) : SegsAt w' b o l := fun i s hi =>
  ⟨(hb.cell (p := ⟨b, o + i * 2, none⟩) hB).trans (h i s hi).1, (hb.cell (p := ⟨b, o + i * 2 + 1, none⟩) hB).trans (h i s hi).2⟩
theorem Segs.below {B : Nat} {w w' : World} {v : Value} {l : List Seg} (h : Segs w v l) (hb : Below B w w') (hB : w.heap.size ≤ B) : Segs w' v l := by
  obtain ⟨a, cap, rfl, h1, h2, h3⟩ := h
  refine ⟨a, cap, rfl, h1, h2, ?_⟩
  rcases h3 with h3 | ⟨b, o, rfl, hlt, hc⟩
  · exact .inl h3
  · exact .inr ⟨b, o, rfl, Nat.lt_of_lt_of_le hlt hb.size, hc.below hb (by omega)⟩
theorem Segs.of_owns {w : World} {base : Nat} {e : TypeId} {v : Value} {l : List Seg} {n : Nat} (h : w.ownsRow base e 2 v n (segCells l)) : Segs w v l := by
  obtain ⟨h1, h2⟩ := h
  rw [segCells_length] at h1
  obtain rfl : l.length = n := by omega
  rcases h2 with ⟨rfl, h0⟩ | ⟨g, cap, cur, rfl, _, hg, hn, hm, hs, ht⟩
  · have : l = [] := List.eq_nil_of_length_eq_zero h0
    subst this
    exact ⟨none, 0, rfl, Nat.le_refl _, by decide, .inl rfl⟩
  · refine ⟨_, cap, rfl, hn, hm, .inr ⟨g, 0, rfl, (Array.getElem?_eq_some_iff.1 hg).1, fun i s hi => ?_⟩⟩
    have hlt : i < l.length := (List.getElem?_eq_some_iff.1 hi).1
    obtain ⟨c1, c2⟩ := segCells_get l i s hi
    rw [← ht, List.getElem?_take] at c1 c2
    simp only [World.cell?, hg, Nat.zero_add]
    constructor
    · split at c1
      · simpa using c1
      · cases c1
    · split at c2
      · simpa using c2
      · cases c2
theorem Segs.nil_cases {w : World} {v : Value} (h : Segs w v []) : ∃ a cap, v = .slice a 0 cap ∧ cap ≤ maxLen := by
  obtain ⟨a, cap, rfl, _, h2, _⟩ := h
  exact ⟨a, cap, rfl, h2⟩
/-- A slice of segments with what it holds, element by element. -/
theorem Segs.parts {w : World} {v : Value} {l : List Seg} (h : Segs w v l) : ∃ a c, v = .slice a l.length c ∧ l.length ≤ c ∧ c ≤ maxLen ∧
    ∀ i s, l[i]? = some s → ∃ b o, a = some ⟨b, o, none⟩ ∧ b < w.heap.size ∧ w.cell? ⟨b, o + i * 2, none⟩ = some (.int .i64 s.1) ∧ w.cell? ⟨b, o + i * 2 + 1, none⟩ = some (.string (mkS s.2)) := by
  obtain ⟨a, c, rfl, h1, h2, h3⟩ := h
  refine ⟨a, c, rfl, h1, h2, fun i s hi => ?_⟩
  rcases h3 with rfl | ⟨b, o, rfl, hb, hc⟩
  · simp at hi
  · exact ⟨b, o, rfl, hb, (hc i s hi).1, (hc i s hi).2⟩
end Go.Proofs.Ytomlknjpaielgaa
