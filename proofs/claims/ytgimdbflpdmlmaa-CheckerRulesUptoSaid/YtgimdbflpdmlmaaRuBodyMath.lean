/- The reference's body in plain Lean: a statement's checks in the reference's order. No condition. -/
import Derived.Test.YtgimdbflpdmlmaaRuExpr
namespace Go.Proofs.Ytgimdbflpdmlmaa.Ck
set_option maxRecDepth 100000
open Go.Proofs.Ytgimdbflpdmlmaa

theorem bind_badS {α β : Type} (v : Viol) (f : α → Res β) : (Res.bad v).bind f = .bad v := rfl
theorem bind_okS {α β : Type} (a : α) (f : α → Res β) : (Res.ok a).bind f = f a := rfl
def nameC (c : Cx) (k : Int) (name : BA) : Res Unit := if k = 1 then scalarC c name else if k = 2 then arrayC c name else .ok ()
theorem len0 {α : Type} {l : List α} (h : l.length = 0) : l = [] := List.eq_nil_of_length_eq_zero h
theorem len1 {α : Type} {l : List α} (h : l.length = 1) : ∃ x, l = [x] := List.length_eq_one_iff.1 h
theorem exprsC_one (c : Cx) (e : Ex) (d : Nat) : exprsC c [e] d = (exprC c e d).bind fun r => .ok ([r.1], r.2) := by rw [exprsC_cons]; congr 1
theorem exprsC_two (c : Cx) (e f : Ex) (d : Nat) : exprsC c [e, f] d = (exprC c e d).bind fun r => (exprC c f r.2).bind fun q => .ok ([r.1, q.1], q.2) := by
  rw [exprsC_cons]
  congr 1
  funext r
  rw [exprsC_one]
  cases exprC c f r.2 <;> rfl
theorem st_says {c : Cx} {k : Int} {name : BA} {index value : List Ex} {thn els : List St} (hf : formed (.mk k name index value thn els) = true) (d : Nat) :
    pr (stC c (.mk k name index value thn els) d) = pr ((exprsC c (value ++ index) d).bind fun a => (nameC c k name).bind fun _ => (stsC c thn a.2).bind fun t => stsC c els t.2) := by
  rw [stC, hf]
  simp only [req, if_true, bind_okS]
  unfold formed at hf
  simp only at hf
  by_cases h1 : k = 1
  · subst h1
    simp only [if_true, Bool.and_eq_true, decide_eq_true_eq] at hf
    obtain ⟨⟨⟨⟨_, hi⟩, hv⟩, ht⟩, he⟩ := hf
    obtain ⟨e, rfl⟩ := len1 hv
    obtain rfl := len0 hi
    obtain rfl := len0 ht
    obtain rfl := len0 he
    rw [List.append_nil, exprsC_one]
    simp only [first, nameC, if_true, stsC_nil, show ¬ (1 : Int) = 7 by decide, if_false]
    cases exprC c e d with
    | bad v => rfl
    | ok r => simp only [bind_okS]; cases scalarC c name <;> rfl
  rw [if_neg h1] at hf
  by_cases h2 : k = 2
  · subst h2
    simp only [if_true, Bool.and_eq_true, decide_eq_true_eq] at hf
    obtain ⟨⟨⟨⟨_, hi⟩, hv⟩, ht⟩, he⟩ := hf
    obtain ⟨e, rfl⟩ := len1 hv
    obtain ⟨f, rfl⟩ := len1 hi
    obtain rfl := len0 ht
    obtain rfl := len0 he
    rw [show [e] ++ [f] = [e, f] from rfl, exprsC_two]
    simp only [first, nameC, if_true, stsC_nil, show ¬ (2 : Int) = 7 by decide, show ¬ (2 : Int) = 1 by decide, if_false]
    cases exprC c e d with
    | bad v => rfl
    | ok r =>
      simp only [bind_okS]
      cases exprC c f r.2 with
      | bad v => rfl
      | ok q => simp only [bind_okS]; cases arrayC c name <;> rfl
  rw [if_neg h2] at hf
  have hn : nameC c k name = .ok () := by unfold nameC; rw [if_neg h1, if_neg h2]
  rw [hn]
  simp only [bind_okS, if_neg h1, if_neg h2]
  by_cases h3 : k = 3
  · subst h3
    simp only [if_true, Bool.and_eq_true, decide_eq_true_eq] at hf
    obtain ⟨⟨_, hi⟩, hv⟩ := hf
    obtain ⟨e, rfl⟩ := len1 hv
    obtain rfl := len0 hi
    rw [List.append_nil, exprsC_one]
    simp only [first, show ¬ (3 : Int) = 7 by decide, show ¬ (3 : Int) = 5 by decide, if_false, true_or, if_true]
    cases exprC c e d with
    | bad v => rfl
    | ok r =>
      simp only [bind_okS]
      cases stsC c thn r.2 with
      | bad v => rfl
      | ok t => simp only [bind_okS]; cases stsC c els t.2 <;> rfl
  rw [if_neg h3] at hf
  by_cases h4 : k = 4
  · subst h4
    simp only [if_true, Bool.and_eq_true, decide_eq_true_eq] at hf
    obtain ⟨⟨⟨_, hi⟩, hv⟩, he⟩ := hf
    obtain ⟨e, rfl⟩ := len1 hv
    obtain rfl := len0 hi
    rw [List.append_nil, exprsC_one]
    simp only [first, show ¬ (4 : Int) = 7 by decide, show ¬ (4 : Int) = 5 by decide, if_false, or_true, if_true]
    cases exprC c e d with
    | bad v => rfl
    | ok r =>
      simp only [bind_okS]
      cases stsC c thn r.2 with
      | bad v => rfl
      | ok t => simp only [bind_okS]; cases stsC c els t.2 <;> rfl
  rw [if_neg h4] at hf
  by_cases h5 : k = 5
  · subst h5
    simp only [if_true, Bool.and_eq_true, decide_eq_true_eq] at hf
    obtain ⟨⟨⟨⟨_, hi⟩, hv⟩, ht⟩, he⟩ := hf
    obtain ⟨e, rfl⟩ := len1 hv
    obtain rfl := len0 hi
    obtain rfl := len0 ht
    obtain rfl := len0 he
    rw [List.append_nil, exprsC_one]
    simp only [first, show ¬ (5 : Int) = 7 by decide, if_false, if_true, stsC_nil]
    cases exprC c e d <;> rfl
  rw [if_neg h5] at hf
  by_cases h6 : k = 6
  · subst h6
    simp only [if_true, Bool.and_eq_true, decide_eq_true_eq] at hf
    obtain ⟨⟨⟨⟨⟨_, hi⟩, hv⟩, ht⟩, he⟩, _⟩ := hf
    obtain ⟨e, rfl⟩ := len1 hv
    obtain rfl := len0 hi
    obtain rfl := len0 ht
    obtain rfl := len0 he
    rw [List.append_nil, exprsC_one]
    simp only [first, show ¬ (6 : Int) = 7 by decide, show ¬ (6 : Int) = 5 by decide, show ¬ ((6 : Int) = 3 ∨ (6 : Int) = 4) by decide, if_false, stsC_nil]
    cases exprC c e d <;> rfl
  rw [if_neg h6] at hf
  by_cases h7 : k = 7
  · subst h7
    simp only [if_true, Bool.and_eq_true, decide_eq_true_eq] at hf
    obtain ⟨⟨⟨⟨_, hi⟩, hv⟩, ht⟩, he⟩ := hf
    obtain rfl := len0 hv
    obtain rfl := len0 hi
    obtain rfl := len0 ht
    obtain rfl := len0 he
    simp only [if_true, List.append_nil, exprsC_nil, bind_okS, stsC_nil]
    done
  rw [if_neg h7] at hf
  cases hf
theorem st_unformed {c : Cx} {s : St} (hf : formed s = false) (d : Nat) : pr (stC c s d) = (c.name, 3) := by
  obtain ⟨k, name, index, value, thn, els⟩ := s
  rw [stC, hf]
  rfl
end Go.Proofs.Ytgimdbflpdmlmaa.Ck
