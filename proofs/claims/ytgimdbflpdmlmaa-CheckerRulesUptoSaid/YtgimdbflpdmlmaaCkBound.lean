/- The plain checker: lists of expressions and statements taken apart; bounds on needs and depths. No program in sight. -/
import Derived.Test.YtgimdbflpdmlmaaCkCall
namespace Go.Proofs.Ytgimdbflpdmlmaa.Ck
set_option maxRecDepth 100000
open Go.Proofs.Ytgimdbflpdmlmaa

mutual
def Ex.nodes : Ex → Nat
  | .mk _ _ _ args => 1 + nodesL args
def nodesL : List Ex → Nat
  | [] => 0
  | e :: l => e.nodes + nodesL l
end
mutual
def St.nodes : St → Nat
  | .mk _ _ index value thn els => 1 + nodesL index + nodesL value + nodesS thn + nodesS els
def nodesS : List St → Nat
  | [] => 0
  | s :: l => s.nodes + nodesS l
end
theorem Ex.nodes_pos (e : Ex) : 1 ≤ e.nodes := by cases e; rw [Ex.nodes]; omega
theorem St.nodes_pos (s : St) : 1 ≤ s.nodes := by cases s; rw [St.nodes]; omega
theorem length_nodesL : ∀ l : List Ex, l.length ≤ nodesL l
  | [] => by simp [nodesL]
  | e :: l => by
    have := length_nodesL l
    have := e.nodes_pos
    rw [nodesL, List.length_cons]; omega
theorem length_nodesS : ∀ l : List St, l.length ≤ nodesS l
  | [] => by simp [nodesS]
  | e :: l => by
    have := length_nodesS l
    have := e.nodes_pos
    rw [nodesS, List.length_cons]; omega
theorem nodesL_append (l m : List Ex) : nodesL (l ++ m) = nodesL l + nodesL m := by
  induction l with
  | nil => simp [nodesL]
  | cons e l ih => rw [List.cons_append, nodesL, nodesL, ih]; omega
theorem nodesL_get : ∀ {l : List Ex} {i : Nat} {e : Ex}, l[i]? = some e → e.nodes ≤ nodesL l
  | [], i, e, h => by simp at h
  | x :: l, 0, e, h => by simp at h; subst h; rw [nodesL]; omega
  | x :: l, i + 1, e, h => by
    have := nodesL_get (l := l) (i := i) (e := e) (by simpa using h)
    rw [nodesL]; omega
theorem nodesS_append (l m : List St) : nodesS (l ++ m) = nodesS l + nodesS m := by
  induction l with
  | nil => simp [nodesS]
  | cons e l ih => rw [List.cons_append, nodesS, nodesS, ih]; omega
theorem nodesS_get : ∀ {l : List St} {i : Nat} {e : St}, l[i]? = some e → e.nodes ≤ nodesS l
  | [], i, e, h => by simp at h
  | x :: l, 0, e, h => by simp at h; subst h; rw [nodesS]; omega
  | x :: l, i + 1, e, h => by
    have := nodesS_get (l := l) (i := i) (e := e) (by simpa using h)
    rw [nodesS]; omega
theorem Ex.nodes_args (e : Ex) : e.nodes = 1 + nodesL e.args := by cases e; rw [Ex.nodes]; rfl

theorem Res.bind_bad {α β : Type} (v : Viol) (f : α → Res β) : (Res.bad v).bind f = .bad v := rfl
theorem Res.bind_ok {α β : Type} (a : α) (f : α → Res β) : (Res.ok a).bind f = f a := rfl
theorem Res.bind_assoc {α β γ : Type} (r : Res α) (f : α → Res β) (g : β → Res γ) : (r.bind f).bind g = r.bind fun a => (f a).bind g := by cases r <;> rfl
theorem exprC_eq (c : Cx) (e : Ex) (d : Nat) : exprC c e d = (req (decide (operands e.op = -1) || decide (operands e.op = (e.args.length : Int))) c.name 3).bind fun _ => (exprsC c e.args d).bind fun r => opC c e.op e.name r.1 r.2 := by
  cases e; rw [exprC]; rfl
theorem exprsC_nil (c : Cx) (d : Nat) : exprsC c [] d = .ok ([], d) := by rw [exprsC]
theorem exprsC_cons (c : Cx) (e : Ex) (l : List Ex) (d : Nat) : exprsC c (e :: l) d = (exprC c e d).bind fun r => (exprsC c l r.2).bind fun q => .ok (r.1 :: q.1, q.2) := by rw [exprsC]
theorem exprsC_append (c : Cx) : ∀ (l m : List Ex) (d : Nat), exprsC c (l ++ m) d = (exprsC c l d).bind fun q => (exprsC c m q.2).bind fun s => .ok (q.1 ++ s.1, s.2)
  | [], m, d => by
    rw [exprsC_nil, Res.bind_ok, List.nil_append]
    cases exprsC c m d <;> rfl
  | e :: l, m, d => by
    rw [List.cons_append, exprsC_cons, exprsC_cons]
    cases exprC c e d with
    | bad v => rfl
    | ok r =>
      simp only [Res.bind_ok]
      rw [exprsC_append c l m]
      cases exprsC c l r.2 with
      | bad v => rfl
      | ok q =>
        simp only [Res.bind_ok]
        cases exprsC c m q.2 <;> rfl
/-- One operand more. -/
theorem exprsC_snoc_ok {c : Cx} {l : List Ex} {e : Ex} {d d1 d2 n : Nat} {ns : List Nat} (h1 : exprsC c l d = .ok (ns, d1)) (h2 : exprC c e d1 = .ok (n, d2)) : exprsC c (l ++ [e]) d = .ok (ns ++ [n], d2) := by
  rw [exprsC_append, h1, Res.bind_ok, exprsC_cons]
  simp only [h2, Res.bind_ok, exprsC_nil]
theorem exprsC_bad {c : Cx} {l m : List Ex} {e : Ex} {d d1 : Nat} {v : Viol} {ns : List Nat} (h1 : exprsC c l d = .ok (ns, d1)) (h2 : exprC c e d1 = .bad v) : exprsC c (l ++ e :: m) d = .bad v := by
  rw [exprsC_append, h1, Res.bind_ok, exprsC_cons]
  simp only [h2, Res.bind_bad]
theorem opC_le {c : Cx} {op name : BA} {ns : List Nat} {d n d' K0 S : Nat} (hs : Small c K0) (hl : ns.length ≤ S) (hn : ∀ x ∈ ns, x + ns.length ≤ K0 + 5 * S + 1) (h : opC c op name ns d = .ok (n, d')) : n ≤ K0 + 5 * (1 + S) ∧ d' ≤ max d K0 := by
  have g : ∀ i, ns.getD i 0 ≤ K0 + 5 * S + 1 := fun i => by
    rw [List.getD_eq_getElem?_getD]
    cases hi : ns[i]? with
    | none => simp
    | some x => have := hn x (List.mem_of_getElem? hi); simp; omega
  have g0 := g 0
  have g1 := g 1
  unfold opC at h
  split at h
  · cases h; omega
  split at h
  · cases hx : scalarC c name with
    | bad v => rw [hx] at h; cases h
    | ok u => rw [hx] at h; cases h; omega
  split at h
  · cases hx : arrayC c name with
    | bad v => rw [hx] at h; cases h
    | ok u => rw [hx] at h; cases h; omega
  split at h
  · unfold callC at h
    split at h
    · split at h
      · cases h; omega
      · cases h
    · split at h
      · split at h
        · cases h; omega
        · cases h
      · split at h
        · split at h <;> cases h
        · rename_i f hf
          obtain ⟨k1, k2, k3⟩ := hs.funcs name f hf
          split at h
          · cases h
            refine ⟨?_, by omega⟩
            refine needFrom_le ns 0 _ (by omega) (fun x hx => ?_)
            have := hn x hx
            omega
          · cases h
  split at h
  · cases h; omega
  split at h
  · cases h; omega
  · cases h
    refine ⟨?_, by omega⟩
    unfold needBin
    split
    · omega
    split
    · omega
    split
    · omega
    split <;> omega
mutual
theorem exprC_le {c : Cx} {K0 : Nat} (hs : Small c K0) : ∀ (e : Ex) (d n d' : Nat), exprC c e d = .ok (n, d') → n ≤ K0 + 5 * e.nodes ∧ d' ≤ max d K0
  | .mk op num name args, d, n, d', h => by
    rw [exprC] at h
    cases hr : req (decide (operands op = -1) || decide (operands op = (args.length : Int))) c.name 3 with
    | bad v => rw [hr, Res.bind_bad] at h; cases h
    | ok u =>
      rw [hr, Res.bind_ok] at h
      cases hx : exprsC c args d with
      | bad v => rw [hx, Res.bind_bad] at h; cases h
      | ok q =>
        rw [hx, Res.bind_ok] at h
        obtain ⟨ns, d1⟩ := q
        obtain ⟨a1, a2, a3⟩ := exprsC_le hs args d ns d1 hx
        have hlen := length_nodesL args
        obtain ⟨b1, b2⟩ := opC_le hs (by rw [a1]; exact hlen) (by rw [a1]; exact a2) h
        rw [Ex.nodes]
        omega
theorem exprsC_le {c : Cx} {K0 : Nat} (hs : Small c K0) : ∀ (l : List Ex) (d : Nat) (ns : List Nat) (d' : Nat), exprsC c l d = .ok (ns, d') → ns.length = l.length ∧ (∀ x ∈ ns, x + l.length ≤ K0 + 5 * nodesL l + 1) ∧ d' ≤ max d K0
  | [], d, ns, d', h => by
    rw [exprsC_nil] at h
    cases h
    exact ⟨rfl, fun x hx => (by cases hx), by omega⟩
  | e :: l, d, ns, d', h => by
    rw [exprsC_cons] at h
    cases hx : exprC c e d with
    | bad v => rw [hx] at h; cases h
    | ok r =>
      obtain ⟨n, d1⟩ := r
      rw [hx] at h
      simp only [Res.bind_ok] at h
      cases hy : exprsC c l d1 with
      | bad v => rw [hy] at h; cases h
      | ok q =>
        obtain ⟨ms, d2⟩ := q
        rw [hy] at h
        simp only [Res.bind_ok] at h
        cases h
        obtain ⟨a1, a2⟩ := exprC_le hs e d n d1 hx
        obtain ⟨b1, b2, b3⟩ := exprsC_le hs l d1 ms d' hy
        have hlen := length_nodesL l
        have hpos := e.nodes_pos
        refine ⟨by simp [b1], fun x hxm => ?_, by omega⟩
        rw [nodesL, List.length_cons]
        rcases List.mem_cons.1 hxm with rfl | hm
        · omega
        · have := b2 x hm; omega
end
end Go.Proofs.Ytgimdbflpdmlmaa.Ck
