/- A slice of strings that lies in memory, read as a list; its length, elements, parts; it stands behind whatever turns nothing that lay. -/
import Derived.Test.YtojgopbaiflfgaaGreatDoorBase
namespace Go.Proofs.YtojgopbaiflfgaaGreatDoor
set_option maxRecDepth 100000
open Go.RowKit Go.Shelf

/-- v is a slice that holds the strings l in the world w. -/
def Strs (w : World) (v : Value) (l : List ByteArray) : Prop :=
  ∃ a cap, v = .slice a l.length cap ∧ l.length ≤ cap ∧ cap ≤ maxLen ∧
    (l = [] ∨ ∃ b o, a = some ⟨b, o, none⟩ ∧ b < w.heap.size ∧ ∀ i s, l[i]? = some s → w.cell? ⟨b, o + i, none⟩ = some (.string s))

theorem Strs.below {B : Nat} {w w' : World} {v : Value} {l : List ByteArray} (h : Strs w v l) (hb : Below B w w') (hB : w.heap.size ≤ B) : Strs w' v l := by
  obtain ⟨a, cap, rfl, h1, h2, h3⟩ := h
  refine ⟨a, cap, rfl, h1, h2, ?_⟩
  rcases h3 with h3 | ⟨b, o, rfl, hlt, hc⟩
  · exact .inl h3
  · exact .inr ⟨b, o, rfl, Nat.lt_of_lt_of_le hlt hb.size, fun i s hi => (hb.cell (p := ⟨b, o + i, none⟩) (by simp; omega)).trans (hc i s hi)⟩

theorem Strs.of_owns {w : World} {base : Nat} {e : TypeId} {v : Value} {l : List ByteArray} {n : Nat} (h : w.ownsRow base e 1 v n (l.map Value.string)) : Strs w v l := by
  obtain ⟨h1, h2⟩ := h
  simp only [List.length_map, Nat.mul_one] at h1
  subst h1
  rcases h2 with ⟨rfl, h0⟩ | ⟨g, cap, cur, rfl, _, hg, hn, hm, hs, ht⟩
  · have : l = [] := List.eq_nil_of_length_eq_zero h0
    subst this
    exact ⟨none, 0, rfl, Nat.le_refl _, by decide, .inl rfl⟩
  · refine ⟨_, cap, rfl, hn, hm, .inr ⟨g, 0, rfl, (Array.getElem?_eq_some_iff.1 hg).1, fun i s hi => ?_⟩⟩
    have hlt : i < l.length := (List.getElem?_eq_some_iff.1 hi).1
    simp only [World.cell?, hg, Nat.zero_add]
    have : (l.map Value.string)[i]? = some (.string s) := by rw [List.getElem?_map, hi]; rfl
    rw [← ht, List.getElem?_take] at this
    split at this
    · simpa using this
    · cases this

theorem Strs.nil_cases {w : World} {v : Value} (h : Strs w v []) : ∃ a cap, v = .slice a 0 cap ∧ cap ≤ maxLen := by
  obtain ⟨a, cap, rfl, _, h2, _⟩ := h
  exact ⟨a, cap, rfl, h2⟩
theorem Strs.cons_cases {w : World} {v : Value} {l : List ByteArray} (h : Strs w v l) (hl : l ≠ []) :
    ∃ b o cap, v = .slice (some ⟨b, o, none⟩) l.length cap ∧ l.length ≤ cap ∧ cap ≤ maxLen ∧ b < w.heap.size ∧ ∀ i s, l[i]? = some s → w.cell? ⟨b, o + i, none⟩ = some (.string s) := by
  obtain ⟨a, cap, rfl, h1, h2, h3⟩ := h
  rcases h3 with h3 | ⟨b, o, rfl, hlt, hc⟩
  · exact absurd h3 hl
  · exact ⟨b, o, cap, rfl, h1, h2, hlt, hc⟩
end Go.Proofs.YtojgopbaiflfgaaGreatDoor
