/- Functions as rows of cells: copied by append, exchanged, one in the place of another. No condition. -/
import Derived.Test.YtgimdbflpdmlmaaCkScalars
import Derived.Test.YtgimdbflpdmlmaaCheckerForward
namespace Go.Proofs.Ytgimdbflpdmlmaa
set_option maxRecDepth 100000
open Go.RowKit Go.Shelf Go.Proofs.Ytgimdbflpdmlmaa.Ck

/-- The cells of a function. -/
def fuCells (f : Fu) (up ul ub : Value) : List Value := [.string f.name, up, ul, ub]
def FuVals (w : World) (f : Fu) (up ul ub : Value) : Prop := Strs w up f.params ∧ Strs w ul f.locals ∧ ∃ n, StsAt w n ub f.body
theorem FuVals.below {w w' : World} {f : Fu} {up ul ub : Value} (h : FuVals w f up ul ub) (hb : Below w.heap.size w w') : FuVals w' f up ul ub := by
  obtain ⟨h1, h2, n, h3⟩ := h
  exact ⟨h1.below hb (Nat.le_refl _), h2.below hb (Nat.le_refl _), n, h3.below hb (Nat.le_refl _)⟩
theorem FuVals.slices {w : World} {f : Fu} {up ul ub : Value} (h : FuVals w f up ul ub) : (∃ a c, up = .slice a f.params.length c) ∧ (∃ a c, ul = .slice a f.locals.length c) ∧ ∃ a c, ub = .slice a f.body.length c := by
  obtain ⟨⟨a1, c1, e1, _⟩, ⟨a2, c2, e2, _⟩, n, h3⟩ := h
  obtain ⟨a3, c3, e3, _⟩ := h3.len
  exact ⟨⟨a1, c1, e1⟩, ⟨a2, c2, e2⟩, a3, c3, e3⟩
def FnRow (w : World) : List Fu → List Value → Prop
  | [], cs => cs = []
  | f :: l, cs => ∃ up ul ub r, cs = .string f.name :: up :: ul :: ub :: r ∧ FuVals w f up ul ub ∧ FnRow w l r
theorem FnRow.length {w : World} : ∀ {l : List Fu} {cs : List Value}, FnRow w l cs → cs.length = l.length * 4
  | [], _, h => by cases h; rfl
  | f :: l, _, h => by
    obtain ⟨up, ul, ub, r, rfl, _, hr⟩ := h
    have := FnRow.length hr
    simp only [List.length_cons]
    omega
theorem FnRow.one {w : World} : ∀ {l : List Fu} {cs : List Value}, FnRow w l cs → ∀ x ∈ cs, x.oneCell' = true
  | [], _, h, x, hx => by cases h; cases hx
  | f :: l, _, h, x, hx => by
    obtain ⟨up, ul, ub, r, rfl, hv, hr⟩ := h
    obtain ⟨⟨_, _, rfl⟩, ⟨_, _, rfl⟩, _, _, rfl⟩ := hv.slices
    simp only [List.mem_cons] at hx
    rcases hx with rfl | rfl | rfl | rfl | hx
    · rfl
    · rfl
    · rfl
    · rfl
    · exact FnRow.one hr x hx
theorem FnRow.append {w : World} : ∀ {l m : List Fu} {cs ds : List Value}, FnRow w l cs → FnRow w m ds → FnRow w (l ++ m) (cs ++ ds)
  | [], m, _, ds, h, h' => by cases h; exact h'
  | e :: l, m, _, ds, h, h' => by
    obtain ⟨up, ul, ub, r, rfl, hv, hr⟩ := h
    exact ⟨up, ul, ub, r ++ ds, rfl, hv, FnRow.append hr h'⟩
theorem FnRow.split {w : World} : ∀ {l m : List Fu} {cs : List Value}, FnRow w (l ++ m) cs → ∃ c1 c2, cs = c1 ++ c2 ∧ FnRow w l c1 ∧ FnRow w m c2
  | [], m, cs, h => ⟨[], cs, rfl, rfl, h⟩
  | e :: l, m, _, h => by
    obtain ⟨up, ul, ub, r, rfl, hv, hr⟩ := h
    obtain ⟨c1, c2, rfl, h1, h2⟩ := FnRow.split hr
    exact ⟨_, c2, rfl, ⟨up, ul, ub, c1, rfl, hv, h1⟩, h2⟩
theorem FnRow.below {w w' : World} (hb : Below w.heap.size w w') : ∀ {l : List Fu} {cs : List Value}, FnRow w l cs → FnRow w' l cs
  | [], _, h => h
  | e :: l, _, h => by
    obtain ⟨up, ul, ub, r, rfl, hv, hr⟩ := h
    exact ⟨up, ul, ub, r, rfl, hv.below hb, FnRow.below hb hr⟩
theorem FnRow.get {w : World} : ∀ {l : List Fu} {cs : List Value} {i : Nat} {f : Fu}, FnRow w l cs → l[i]? = some f → ∃ up ul ub, cs[i * 4]? = some (.string f.name) ∧ cs[i * 4 + 1]? = some up ∧ cs[i * 4 + 2]? = some ul ∧ cs[i * 4 + 3]? = some ub ∧ FuVals w f up ul ub
  | [], _, i, e, _, hi => by simp at hi
  | x :: l, _, 0, e, h, hi => by
    obtain ⟨up, ul, ub, r, rfl, hv, hr⟩ := h
    simp at hi
    subst hi
    exact ⟨up, ul, ub, rfl, rfl, rfl, rfl, hv⟩
  | x :: l, _, i + 1, e, h, hi => by
    obtain ⟨up, ul, ub, r, rfl, hv, hr⟩ := h
    obtain ⟨a, b, c, h0, h1, h2, h3, h4⟩ := FnRow.get (i := i) hr (by simpa using hi)
    refine ⟨a, b, c, ?_, ?_, ?_, ?_, h4⟩ <;> rw [show (i + 1) * 4 = i * 4 + 1 + 1 + 1 + 1 by omega] <;> assumption
theorem fnRow_at {w : World} {b : Nat} : ∀ (l : List Fu) (o : Nat), (∀ i f, l[i]? = some f →
      w.cell? ⟨b, o + i * 4, none⟩ = some (.string f.name) ∧ ∃ up ul ub, w.cell? ⟨b, o + i * 4 + 1, none⟩ = some up ∧ w.cell? ⟨b, o + i * 4 + 2, none⟩ = some ul ∧ w.cell? ⟨b, o + i * 4 + 3, none⟩ = some ub ∧ FuVals w f up ul ub) → ∃ cs, FnRow w l cs ∧ ∀ j u, cs[j]? = some u → w.cell? ⟨b, o + j, none⟩ = some u
  | [], o, _ => ⟨[], rfl, fun j u h => by simp at h⟩
  | e :: l, o, h => by
    obtain ⟨c0, up, ul, ub, c1, c2, c3, hv⟩ := h 0 e rfl
    obtain ⟨cs, hr, hc⟩ := fnRow_at l (o + 4) (fun i x hx => by
      have := h (i + 1) x (by simpa using hx)
      rwa [show o + (i + 1) * 4 = o + 4 + i * 4 by omega] at this)
    refine ⟨_, ⟨up, ul, ub, cs, rfl, hv, hr⟩, fun j v hj => ?_⟩
    rw [Nat.zero_mul, Nat.add_zero] at c0 c1 c2 c3
    match j, hj with
    | 0, hj => simp at hj; subst hj; exact c0
    | 1, hj => simp at hj; subst hj; exact c1
    | 2, hj => simp at hj; subst hj; exact c2
    | 3, hj => simp at hj; subst hj; exact c3
    | j + 4, hj =>
      have := hc j v (by simpa using hj)
      rwa [show o + 4 + j = o + (j + 4) by omega] at this
/-- A slice of functions, as its cells. -/
theorem FnsAt.slc {w : World} {v : Value} {l : List Fu} (h : FnsAt w v l) : ∃ cs, Slc w 4 v l.length cs ∧ FnRow w l cs := by
  obtain ⟨a, cap, rfl, h1, h2, h3⟩ := h
  rcases h3 with rfl | ⟨b, o, rfl, hb, hc⟩
  · exact ⟨[], ⟨a, cap, rfl, Nat.zero_le _, h2, rfl, .inl rfl⟩, rfl⟩
  · obtain ⟨cs, hr, hj⟩ := fnRow_at (w := w) (b := b) l o (fun i f hf => by
      obtain ⟨c0, up, ul, ub, c1, c2, c3, x1, x2, x3⟩ := hc i f hf
      exact ⟨c0, up, ul, ub, c1, c2, c3, x1, x2, x3⟩)
    exact ⟨cs, ⟨_, cap, rfl, h1, h2, hr.length, .inr ⟨b, o, rfl, hb, hj⟩⟩, hr⟩
/-- And back. -/
theorem FnRow.fns {w : World} {v : Value} {l : List Fu} {cs : List Value} (h : FnRow w l cs) (hs : Slc w 4 v l.length cs) : FnsAt w v l := by
  obtain ⟨a, cap, rfl, h1, h2, h3, h4⟩ := hs
  refine ⟨a, cap, rfl, h1, h2, ?_⟩
  rcases h4 with h0 | ⟨b, o, rfl, hb, hc⟩
  · exact .inl (List.eq_nil_of_length_eq_zero h0)
  · refine .inr ⟨b, o, rfl, hb, fun i f hf => ?_⟩
    obtain ⟨up, ul, ub, c0, c1, c2, c3, x1, x2, x3⟩ := h.get hf
    refine ⟨hc _ _ c0, up, ul, ub, ?_, ?_, ?_, x1, x2, x3⟩
    · rw [Nat.add_assoc]; exact hc _ _ c1
    · rw [Nat.add_assoc]; exact hc _ _ c2
    · rw [Nat.add_assoc]; exact hc _ _ c3
/-- Four cells stored. -/
def set4 (cs : List Value) (i : Nat) (x0 x1 x2 x3 : Value) : List Value := (((cs.set (i * 4) x0).set (i * 4 + 1) x1).set (i * 4 + 2) x2).set (i * 4 + 3) x3
theorem set4_at {c1 c2 : List Value} {i : Nat} {y0 y1 y2 y3 : Value} (h : c1.length = i * 4) (x0 x1 x2 x3 : Value) : set4 (c1 ++ y0 :: y1 :: y2 :: y3 :: c2) i x0 x1 x2 x3 = c1 ++ x0 :: x1 :: x2 :: x3 :: c2 := by
  unfold set4
  rw [List.set_append_right _ _ (by omega), List.set_append_right _ _ (by omega), List.set_append_right _ _ (by omega), List.set_append_right _ _ (by omega), h]
  simp
theorem grown_drew1 {w w' : World} {r : Option Nat} (h : w.grownBy w' r) : w.grownBy w'.drew r := ⟨h.os, h.tape, h.output, h.size, h.block⟩
theorem grown_set1 {w w' : World} {g j : Nat} {u : Value} (h : w.grownBy w' (some g)) : w.grownBy (w'.setCell ⟨g, j, none⟩ u) (some g) := grown_trans h (grown_setCell w' ⟨g, j, none⟩ u)
/-- Four cells of a row, stored. -/
def put4 (w : World) (g i : Nat) (x0 x1 x2 x3 : Value) : World := (((w.setCell ⟨g, i * 4, none⟩ x0).setCell ⟨g, i * 4 + 1, none⟩ x1).setCell ⟨g, i * 4 + 2, none⟩ x2).setCell ⟨g, i * 4 + 3, none⟩ x3
theorem row_put4 {w : World} {base g n cap : Nat} {e : TypeId} {xs : List Value} (h : w.ownsRow base e 4 (.slice (some ⟨g, 0, none⟩) n cap) n xs) (i : Nat) (x0 x1 x2 x3 : Value) : (put4 w g i x0 x1 x2 x3).ownsRow base e 4 (.slice (some ⟨g, 0, none⟩) n cap) n (set4 xs i x0 x1 x2 x3) :=
  (((h.stored (i * 4) x0).1.stored (i * 4 + 1) x1).1.stored (i * 4 + 2) x2).1.stored (i * 4 + 3) x3 |>.1
theorem grown_put4 (w : World) (g i : Nat) (x0 x1 x2 x3 : Value) : w.grownBy (put4 w g i x0 x1 x2 x3) (some g) := grown_set1 (grown_set1 (grown_set1 (grown_set1 (World.grownBy.refl w _))))
theorem set4_next {c1 c2 : List Value} {i : Nat} {a0 a1 a2 a3 b0 b1 b2 b3 : Value} (h : c1.length = i * 4) (y0 y1 y2 y3 : Value) : set4 (c1 ++ a0 :: a1 :: a2 :: a3 :: b0 :: b1 :: b2 :: b3 :: c2) (i + 1) y0 y1 y2 y3 = c1 ++ a0 :: a1 :: a2 :: a3 :: y0 :: y1 :: y2 :: y3 :: c2 := by
  have e : c1 ++ a0 :: a1 :: a2 :: a3 :: b0 :: b1 :: b2 :: b3 :: c2 = (c1 ++ [a0, a1, a2, a3]) ++ b0 :: b1 :: b2 :: b3 :: c2 := by simp
  rw [e, set4_at (by simp; omega)]
  simp
/-- Two neighbors in a row, exchanged. -/
theorem row_swap {w : World} {base g n cap i : Nat} {e : TypeId} {cs1 cs4 : List Value} {a0 a1 a2 a3 b0 b1 b2 b3 : Value} (h : w.ownsRow base e 4 (.slice (some ⟨g, 0, none⟩) n cap) n (cs1 ++ a0 :: a1 :: a2 :: a3 :: b0 :: b1 :: b2 :: b3 :: cs4)) (hl : cs1.length = i * 4) (x0 x1 x2 x3 y0 y1 y2 y3 : Value) :
    (put4 (put4 w g i x0 x1 x2 x3) g (i + 1) y0 y1 y2 y3).drew.ownsRow base e 4 (.slice (some ⟨g, 0, none⟩) n cap) n (cs1 ++ x0 :: x1 :: x2 :: x3 :: y0 :: y1 :: y2 :: y3 :: cs4) ∧ w.grownBy (put4 (put4 w g i x0 x1 x2 x3) g (i + 1) y0 y1 y2 y3).drew (some g) := by
  have e1 := row_put4 h i x0 x1 x2 x3
  rw [set4_at hl] at e1
  have e2 := row_put4 e1 (i + 1) y0 y1 y2 y3
  rw [set4_next hl] at e2
  exact ⟨World.ownsRow.drew e2, grown_drew1 (grown_trans (grown_put4 w g i _ _ _ _) (grown_put4 _ g (i + 1) _ _ _ _))⟩
end Go.Proofs.Ytgimdbflpdmlmaa
