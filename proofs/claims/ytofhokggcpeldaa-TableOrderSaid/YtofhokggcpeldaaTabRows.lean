/- A slice of rows, each a slice of strings, read as a list of lists; a slice of integers of the call's own. No condition. -/
import Derived.Test.YtofhokggcpeldaaTableMath
import Derived.Test.YtofhokggcpeldaaStrs
namespace Go.Proofs.Ytofhokggcpeldaa
open Go.RowKit Go.Shelf Go.Proofs.Ytofhokggcpeldaa.Table

/-- v is a slice that holds the rows in the world w. -/
def TRows (w : World) (v : Value) (rows : List Row) : Prop :=
  ∃ a cap, v = .slice a rows.length cap ∧ rows.length ≤ cap ∧ cap ≤ maxLen ∧ ∀ i r, rows[i]? = some r → ∃ b o u, a = some ⟨b, o, none⟩ ∧ b < w.heap.size ∧ w.cell? ⟨b, o + i, none⟩ = some u ∧ Strs w u r

theorem TRows.below {B : Nat} {w w' : World} {v : Value} {rows : List Row} (h : TRows w v rows) (hb : Below B w w') (hB : w.heap.size ≤ B) : TRows w' v rows := by
  obtain ⟨a, cap, rfl, h1, h2, h3⟩ := h
  refine ⟨a, cap, rfl, h1, h2, fun i r hr => ?_⟩
  obtain ⟨b, o, u, ha, hlt, hc, hs⟩ := h3 i r hr
  exact ⟨b, o, u, ha, Nat.lt_of_lt_of_le hlt hb.size, (hb.cell (p := ⟨b, o + i, none⟩) (by simp; omega)).trans hc, hs.below hb hB⟩

/-- A slice of strings with what it holds, element by element. -/
theorem Strs.parts {w : World} {v : Value} {l : List ByteArray} (h : Strs w v l) : ∃ a c, v = .slice a l.length c ∧ l.length ≤ c ∧ c ≤ maxLen ∧
    ∀ i s, l[i]? = some s → ∃ b o, a = some ⟨b, o, none⟩ ∧ b < w.heap.size ∧ w.cell? ⟨b, o + i, none⟩ = some (.string s) := by
  obtain ⟨a, c, rfl, h1, h2, h3⟩ := h
  refine ⟨a, c, rfl, h1, h2, fun i s hi => ?_⟩
  rcases h3 with rfl | ⟨b, o, rfl, hb, hc⟩
  · simp at hi
  · exact ⟨b, o, rfl, hb, hc i s hi⟩

def intCells (l : List Nat) : List Value := l.map fun n : Nat => Value.int .i64 (n : Int)
theorem intCells_length (l : List Nat) : (intCells l).length = l.length := by simp [intCells]
theorem intCells_get {l : List Nat} {k : Nat} (h : k < l.length) : (intCells l)[k]? = some (.int .i64 (l.getD k 0)) := by
  simp [intCells, List.getD_eq_getElem?_getD, h]
theorem intCells_snoc (l : List Nat) (n : Nat) : intCells (l ++ [n]) = intCells l ++ [.int .i64 n] := by simp [intCells]
theorem intCells_set (l : List Nat) (k n : Nat) : (intCells l).set k (.int .i64 n) = intCells (l.set k n) := by simp [intCells, List.map_set]

/-- v is a slice that holds the numbers l. -/
def Nums (w : World) (v : Value) (l : List Nat) : Prop :=
  ∃ a cap, v = .slice a l.length cap ∧ l.length ≤ cap ∧ cap ≤ maxLen ∧ ∀ (i n : Nat), l[i]? = some n → ∃ b o, a = some ⟨b, o, none⟩ ∧ b < w.heap.size ∧ w.cell? ⟨b, o + i, none⟩ = some (.int .i64 n)
theorem Nums.below {B : Nat} {w w' : World} {v : Value} {l : List Nat} (h : Nums w v l) (hb : Below B w w') (hB : w.heap.size ≤ B) : Nums w' v l := by
  obtain ⟨a, cap, rfl, h1, h2, h3⟩ := h
  refine ⟨a, cap, rfl, h1, h2, fun i n hn => ?_⟩
  obtain ⟨b, o, ha, hlt, hc⟩ := h3 i n hn
  exact ⟨b, o, ha, Nat.lt_of_lt_of_le hlt hb.size, (hb.cell (p := ⟨b, o + i, none⟩) (by simp; omega)).trans hc⟩
theorem Nums.of_owns {w : World} {base : Nat} {e : TypeId} {v : Value} {l : List Nat} {n : Nat} (h : w.ownsRow base e 1 v n (intCells l)) : Nums w v l := by
  obtain ⟨h1, h2⟩ := h
  rw [intCells_length, Nat.mul_one] at h1
  subst h1
  rcases h2 with ⟨rfl, h0⟩ | ⟨g, cap, cur, rfl, _, hg, hn, hm, hs, ht⟩
  · obtain rfl : l = [] := List.eq_nil_of_length_eq_zero h0
    exact ⟨none, 0, rfl, Nat.le_refl _, by decide, fun i n hn => by simp at hn⟩
  · refine ⟨_, cap, rfl, hn, hm, fun i n hi => ⟨g, 0, rfl, (Array.getElem?_eq_some_iff.1 hg).1, ?_⟩⟩
    have hlt := (List.getElem?_eq_some_iff.1 hi).1
    have hc := intCells_get hlt
    rw [← ht, List.getElem?_take] at hc
    split at hc
    · simp only [World.cell?, hg, Nat.zero_add]
      rw [List.getD_eq_getElem?_getD, hi] at hc
      simpa using hc
    · cases hc
end Go.Proofs.Ytofhokggcpeldaa
