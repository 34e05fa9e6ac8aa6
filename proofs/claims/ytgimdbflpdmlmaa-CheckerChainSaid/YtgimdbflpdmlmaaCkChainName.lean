/- CheckerChain's functions as they grow: their rows, their bodies. No condition. -/
import Derived.Test.YtgimdbflpdmlmaaCkChain
import Derived.Test.YtgimdbflpdmlmaaCkFnRow
import Derived.Test.YtgimdbflpdmlmaaRepeat
namespace Go.Proofs.Ytgimdbflpdmlmaa
set_option maxRecDepth 100000
open Go.RowKit Go.Shelf Go.Proofs.Ytgimdbflpdmlmaa.Ck

/-- The body of the function with number y. -/
def BodyC (w : World) (y : Nat) (bv : Value) : Prop := (y = 0 ∧ bv = .slice none 0 0) ∨ (y ≠ 0 ∧ ∃ S E, bv = .slice (some ⟨S, 0, none⟩) 1 1 ∧ w.heap[S]? = some (.cells #[.int .i64 6, .string ⟨#[]⟩, .slice none 0 0, .slice (some ⟨E, 0, none⟩) 1 1, .slice none 0 0, .slice none 0 0] 46 (0, 0)) ∧
  w.heap[E]? = some (.cells #[.string sCall, .int .u32 0, .string (nmC (y - 1)), .slice none 0 0] 42 (0, 0)))
def ChRow (w : World) (k : Nat) : Nat → List Value → Prop
  | 0, cs => cs = []
  | x + 1, cs => ∃ r bv, cs = r ++ [.string (nmK k x), .slice none 0 0, .slice none 0 0, bv] ∧ ChRow w k x r ∧ BodyC w x bv
theorem BodyC.grown {w w' : World} {y : Nat} {bv : Value} {row : Option Nat} (h : BodyC w y bv) (hg : w.grownBy w' row) (hr : ∀ g, row = some g → ∃ cs t m, w.heap[g]? = some (.cells cs t m) ∧ t ≠ 46 ∧ t ≠ 42) : BodyC w' y bv := by
  rcases h with h | ⟨h0, S, E, h1, h2, h3⟩
  · exact .inl h
  · refine .inr ⟨h0, S, E, h1, ?_, ?_⟩
    · refine (hg.block S (Array.getElem?_eq_some_iff.1 h2).1 (fun e => ?_)).trans h2
      obtain ⟨cs, t, m, a, b, _⟩ := hr S e.symm
      rw [a] at h2
      cases h2
      exact b rfl
    · refine (hg.block E (Array.getElem?_eq_some_iff.1 h3).1 (fun e => ?_)).trans h3
      obtain ⟨cs, t, m, a, _, b⟩ := hr E e.symm
      rw [a] at h3
      cases h3
      exact b rfl
theorem ChRow.grown {w w' : World} {k : Nat} {row : Option Nat} (hg : w.grownBy w' row) (hr : ∀ g, row = some g → ∃ cs t m, w.heap[g]? = some (.cells cs t m) ∧ t ≠ 46 ∧ t ≠ 42) : ∀ {x : Nat} {cs : List Value}, ChRow w k x cs → ChRow w' k x cs
  | 0, _, h => h
  | x + 1, _, h => by
    obtain ⟨r, bv, e, h1, h2⟩ := h
    exact ⟨r, bv, e, ChRow.grown hg hr h1, h2.grown hg hr⟩
theorem ChRow.below {w w' : World} {k x : Nat} {cs : List Value} (h : ChRow w k x cs) (hb : Below w.heap.size w w') : ChRow w' k x cs := ChRow.grown (grown_none hb) (fun g hg => by cases hg) h
theorem ChRow.length {w : World} {k : Nat} : ∀ {x : Nat} {cs : List Value}, ChRow w k x cs → cs.length = x * 4
  | 0, _, h => by cases h; rfl
  | x + 1, _, h => by
    obtain ⟨r, bv, rfl, h1, _⟩ := h
    have := ChRow.length h1
    simp; omega
theorem ChRow.last {w : World} {k x : Nat} {cs : List Value} (h : ChRow w k (x + 1) cs) : cs[x * 4]? = some (.string (nmK k x)) := by
  obtain ⟨r, bv, rfl, h1, _⟩ := h
  rw [List.getElem?_append_right (by rw [h1.length]; exact Nat.le_refl _), h1.length]
  simp
theorem ChRow.fns {w : World} {k : Nat} : ∀ {x : Nat} {cs : List Value}, ChRow w k x cs → FnRow w ((List.range x).map (chainF k)) cs
  | 0, _, h => h
  | x + 1, _, h => by
    obtain ⟨r, bv, rfl, h1, h2⟩ := h
    rw [List.range_succ, List.map_append]
    refine FnRow.append (ChRow.fns h1) ⟨_, _, _, [], rfl, ⟨Strs.nil _, Strs.nil _, ?_⟩, rfl⟩
    show ∃ n, StsAt w n bv (if x = 0 then [] else [callS (nmC (x - 1))])
    rcases h2 with ⟨h0, rfl⟩ | ⟨h0, S, E, rfl, e4, e5⟩
    · rw [if_pos h0]; exact ⟨0, StsAt.nil _ _⟩
    · rw [if_neg h0]
      exact ⟨1, StsAt.one (s := callS (nmC (x - 1))) e4 ⟨0, ExsAt.nil _ _⟩ ⟨1, ExsAt.one (e := .mk sCall 0 (nmC (x - 1)) []) e5 (ExsAt.nil _ 0)⟩ (StsAt.nil _ _) (StsAt.nil _ _)⟩
/-- The program's box and its row, behind x functions. -/
structure ChSt (w wr : World) (P k x : Nat) (v : Value) : Prop where
  low : Below w.heap.size w wr
  hw : w.heap.size ≤ P
  pb : wr.heap[P]? = some (.cells #[.slice none 0 0, .slice none 0 0, v] 26 (0, 0))
  row : ∃ cs, wr.ownsRow (P + 1) 36 4 v x cs ∧ ChRow wr k x cs
theorem ChSt.below {w wr w' : World} {P k x : Nat} {v : Value} (h : ChSt w wr P k x v) (hb : Below wr.heap.size wr w') : ChSt w w' P k x v := by
  obtain ⟨cs, h1, h2⟩ := h.row
  exact ⟨h.low.trans (hb.mono h.low.size), h.hw, (hb.block P (Array.getElem?_eq_some_iff.1 h.pb).1).trans h.pb, cs, World.ownsRow.kept h1 (grown_none hb) (by cases hq : Value.ownBlock v <;> simp), h2.below hb⟩
theorem ChSt.prog {w wr : World} {P k : Nat} {v : Value} (h : ChSt w wr P k k v) : PrAt wr (.slice none 0 0) (.slice none 0 0) v (chainP k) := by
  obtain ⟨cs, h1, h2⟩ := h.row
  refine ⟨Strs.nil _, ArsAt.nil _, FnRow.fns h2.fns ?_⟩
  rw [show (chainP k).funcs.length = k by unfold chainP; simp]
  exact Slc.of_owns h1
end Go.Proofs.Ytgimdbflpdmlmaa
