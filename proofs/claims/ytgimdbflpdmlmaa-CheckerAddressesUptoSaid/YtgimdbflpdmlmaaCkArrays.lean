/- The checker's Arrays, in plain Lean, and the reference's: one and the same. No condition. -/
import Derived.Test.YtgimdbflpdmlmaaCkMath
namespace Go.Proofs.Ytgimdbflpdmlmaa.Ck
set_option maxRecDepth 100000

/-- The addresses of the arrays from at on, or nothing where one does not fit. -/
def placeC : Int → List (BA × Int) → Option (List (BA × Int))
  | _, [] => some []
  | t, (n, s) :: l => if t < 0 ∨ 262144 < t ∨ s ≤ 0 ∨ 262144 - t < s then none else (placeC (t + s) l).map fun r => (n, t) :: r
theorem placeC_snoc (n : BA) (s : Int) : ∀ (l : List (BA × Int)) (t : Int), placeC t (l ++ [(n, s)]) = (placeC t l).bind fun r => if t + (l.map (·.2)).sum < 0 ∨ 262144 < t + (l.map (·.2)).sum ∨ s ≤ 0 ∨ 262144 - (t + (l.map (·.2)).sum) < s then none else some (r ++ [(n, t + (l.map (·.2)).sum)])
  | [], t => by
    simp only [List.nil_append, placeC, List.map_nil, List.sum_nil, Int.add_zero, Option.bind_some]
    split <;> rfl
  | (m, u) :: l, t => by
    simp only [List.cons_append, placeC, List.map_cons, List.sum_cons]
    by_cases h : t < 0 ∨ 262144 < t ∨ u ≤ 0 ∨ 262144 - t < u
    · rw [if_pos h, if_pos h]; rfl
    · rw [if_neg h, if_neg h, placeC_snoc n s l (t + u), Int.add_assoc]
      cases placeC (t + u) l with
      | none => rfl
      | some r =>
        simp only [Option.bind_some, Option.map_some]
        split <;> rfl
end Go.Proofs.Ytgimdbflpdmlmaa.Ck
