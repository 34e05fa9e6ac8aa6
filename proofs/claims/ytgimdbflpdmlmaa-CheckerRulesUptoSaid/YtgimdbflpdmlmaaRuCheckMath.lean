/- The reference's needs, calls, Measure and Check in plain Lean: statements' parts, the names that are called, depths by number, the order of the checks. No condition. -/
import Derived.Test.YtgimdbflpdmlmaaRuBodyMath
import Derived.Test.YtgimdbflpdmlmaaRuMost
import Derived.Test.YtgimdbflpdmlmaaCkSim
import Derived.Test.YtgimdbflpdmlmaaCkProgram
import Derived.Test.YtgimdbflpdmlmaaRuFresh
namespace Go.Proofs.Ytgimdbflpdmlmaa.Ck
set_option maxRecDepth 100000
open Go.Proofs.Ytgimdbflpdmlmaa

theorem exprsC_get : ∀ {l : List Ex} {c : Cx} {d d' j : Nat} {ns : List Nat} {e : Ex}, exprsC c l d = .ok (ns, d') → l[j]? = some e → ∃ n d1 d2, ns[j]? = some n ∧ exprC c e d1 = .ok (n, d2)
  | [], c, d, d', j, ns, e, _, he => by simp at he
  | x :: l, c, d, d', j, ns, e, h, he => by
    rw [exprsC_cons] at h
    obtain ⟨⟨n, d1⟩, h1, h⟩ := Res.bind_okay.1 h
    obtain ⟨⟨ms, d2⟩, h2, h⟩ := Res.bind_okay.1 h
    cases h
    cases j with
    | zero => simp at he; subst he; exact ⟨n, d, d1, rfl, h1⟩
    | succ j => exact exprsC_get (j := j) h2 (by simpa using he)
/-- The last of some needs, 0 if there are none. -/
def lastN (l : List Nat) : Nat := l.getLast?.getD 0
theorem lastN_snoc (l : List Nat) (n : Nat) : lastN (l ++ [n]) = n := by unfold lastN; simp
theorem lastN_step {l : List Nat} {j n : Nat} (h : l[j]? = some n) : lastN (l.take (j + 1)) = n := by rw [List.take_add_one, h]; exact lastN_snoc _ _
theorem lastN_le {l : List Nat} {m : Nat} (h : ∀ x ∈ l, x ≤ m) : lastN l ≤ m := by
  unfold lastN
  cases hl : l.getLast? with
  | none => simp
  | some y => exact h y (List.mem_of_getLast? hl)
/-- What a statement of this kind needs. -/
def needOf (k : Int) (v i t u : Nat) : Nat :=
  if k = 1 ∨ k = 6 then max 2 v else if k = 2 then max v (2 + i) else if k = 3 ∨ k = 4 then max 2 (max v (max t u)) else if k = 5 then v else 0
/-- A statement taken apart. -/
theorem st_parts {c : Cx} {k : Int} {name : BA} {index value : List Ex} {thn els : List St} {d m d' : Nat} (h : stC c (.mk k name index value thn els) d = .ok (m, d')) :
    ∃ vs d1 ws d2 t d3 u, exprsC c value d = .ok (vs, d1) ∧ exprsC c index d1 = .ok (ws, d2) ∧ stsC c thn d2 = .ok (t, d3) ∧ stsC c els d3 = .ok (u, d') ∧ m = needOf k (lastN vs) (lastN ws) t u := by
  rw [stC] at h
  obtain ⟨_, hf, h⟩ := Res.bind_okay.1 h
  replace hf := req_okay.1 hf
  unfold formed at hf
  simp only at hf
  by_cases h1 : k = 1
  · subst h1
    simp only [if_true, Bool.and_eq_true, decide_eq_true_eq] at hf
    obtain ⟨⟨⟨⟨_, hi⟩, hv⟩, ht⟩, he⟩ := hf
    obtain ⟨e, rfl⟩ := len1 hv
    obtain rfl := len0 hi
    obtain rfl := len0 ht
    obtain rfl := len0 he
    simp only [first, if_true, show ¬ (1 : Int) = 7 by decide, if_false] at h
    obtain ⟨⟨n, d1⟩, h1, h⟩ := Res.bind_okay.1 h
    obtain ⟨_, h2, h⟩ := Res.bind_okay.1 h
    cases h
    refine ⟨[n], _, [], _, 0, _, 0, ?_, by rw [exprsC_nil], by rw [stsC_nil], by rw [stsC_nil], rfl⟩
    rw [exprsC_one, h1]; rfl
  rw [if_neg h1] at hf
  by_cases h2 : k = 2
  · subst h2
    simp only [if_true, Bool.and_eq_true, decide_eq_true_eq] at hf
    obtain ⟨⟨⟨⟨_, hi⟩, hv⟩, ht⟩, he⟩ := hf
    obtain ⟨e, rfl⟩ := len1 hv
    obtain ⟨f, rfl⟩ := len1 hi
    obtain rfl := len0 ht
    obtain rfl := len0 he
    simp only [first, if_true, show ¬ (2 : Int) = 7 by decide, show ¬ (2 : Int) = 1 by decide, if_false] at h
    obtain ⟨⟨n, d1⟩, h1, h⟩ := Res.bind_okay.1 h
    obtain ⟨⟨n2, d2⟩, h2, h⟩ := Res.bind_okay.1 h
    obtain ⟨_, h3, h⟩ := Res.bind_okay.1 h
    cases h
    refine ⟨[n], d1, [n2], _, 0, _, 0, ?_, ?_, by rw [stsC_nil], by rw [stsC_nil], rfl⟩
    · rw [exprsC_one, h1]; rfl
    · rw [exprsC_one, h2]; rfl
  rw [if_neg h2] at hf
  by_cases h34 : k = 3 ∨ k = 4
  · have h7 : k ≠ 7 := by omega
    have h5 : k ≠ 5 := by omega
    have hp : index = [] ∧ value.length = 1 := by
      rcases h34 with rfl | rfl
      · simp only [if_true, Bool.and_eq_true, decide_eq_true_eq] at hf
        exact ⟨len0 hf.1.2, hf.2⟩
      · simp only [show ¬ (4 : Int) = 3 by decide, if_false, if_true, Bool.and_eq_true, decide_eq_true_eq] at hf
        exact ⟨len0 hf.1.1.2, hf.1.2⟩
    obtain ⟨rfl, hv⟩ := hp
    obtain ⟨e, rfl⟩ := len1 hv
    rw [if_neg h7] at h
    obtain ⟨⟨n, d1⟩, q1, h⟩ := Res.bind_okay.1 h
    rw [if_neg h1, if_neg h2, if_neg h5, if_pos h34] at h
    obtain ⟨⟨t, d2⟩, q2, h⟩ := Res.bind_okay.1 h
    obtain ⟨⟨u, d3⟩, q3, h⟩ := Res.bind_okay.1 h
    cases h
    refine ⟨[n], d1, [], d1, t, d2, u, ?_, by rw [exprsC_nil], q2, q3, ?_⟩
    · rw [exprsC_one]; exact (congrArg (fun z => Res.bind z _) q1).trans rfl
    · unfold needOf
      rw [if_neg (by omega), if_neg (by omega), if_pos h34]
      rfl
  have h3 : k ≠ 3 := fun e => h34 (.inl e)
  have h4 : k ≠ 4 := fun e => h34 (.inr e)
  rw [if_neg h3, if_neg h4] at hf
  by_cases h5 : k = 5
  · subst h5
    simp only [if_true, Bool.and_eq_true, decide_eq_true_eq] at hf
    obtain ⟨⟨⟨⟨_, hi⟩, hv⟩, ht⟩, he⟩ := hf
    obtain ⟨e, rfl⟩ := len1 hv
    obtain rfl := len0 hi
    obtain rfl := len0 ht
    obtain rfl := len0 he
    rw [if_neg (by decide)] at h
    obtain ⟨⟨n, d1⟩, h1, h⟩ := Res.bind_okay.1 h
    rw [if_neg (by decide), if_neg (by decide), if_pos rfl] at h
    cases h
    change exprC c e d = _ at h1
    refine ⟨[_], _, [], _, 0, _, 0, ?_, by rw [exprsC_nil], by rw [stsC_nil], by rw [stsC_nil], rfl⟩
    rw [exprsC_one, h1]; rfl
  rw [if_neg h5] at hf
  by_cases h6 : k = 6
  · subst h6
    simp only [if_true, Bool.and_eq_true, decide_eq_true_eq] at hf
    obtain ⟨⟨⟨⟨⟨_, hi⟩, hv⟩, ht⟩, he⟩, _⟩ := hf
    obtain ⟨e, rfl⟩ := len1 hv
    obtain rfl := len0 hi
    obtain rfl := len0 ht
    obtain rfl := len0 he
    rw [if_neg (by decide)] at h
    obtain ⟨⟨n, d1⟩, h1, h⟩ := Res.bind_okay.1 h
    rw [if_neg (by decide), if_neg (by decide), if_neg (by decide), if_neg (by decide)] at h
    cases h
    change exprC c e d = _ at h1
    refine ⟨[n], _, [], _, 0, _, 0, ?_, by rw [exprsC_nil], by rw [stsC_nil], by rw [stsC_nil], rfl⟩
    rw [exprsC_one, h1]; rfl
  rw [if_neg h6] at hf
  by_cases h7 : k = 7
  · subst h7
    simp only [if_true, Bool.and_eq_true, decide_eq_true_eq] at hf
    obtain ⟨⟨⟨⟨_, hi⟩, hv⟩, ht⟩, he⟩ := hf
    obtain rfl := len0 hv
    obtain rfl := len0 hi
    obtain rfl := len0 ht
    obtain rfl := len0 he
    rw [if_pos rfl] at h
    cases h
    exact ⟨[], _, [], _, 0, _, 0, by rw [exprsC_nil], by rw [exprsC_nil], by rw [stsC_nil], by rw [stsC_nil], rfl⟩
  rw [if_neg h7] at hf
  cases hf
/-- The k-th of some statements that are checked. -/
theorem stsC_get {c : Cx} {l : List St} {d M D k : Nat} {s : St} (h : stsC c l d = .ok (M, D)) (hs : l[k]? = some s) {m d1 : Nat} (hk : stsC c (l.take k) d = .ok (m, d1)) :
    ∃ n d2, stC c s d1 = .ok (n, d2) ∧ stsC c (l.take (k + 1)) d = .ok (max m n, d2) := by
  cases hr : stC c s d1 with
  | ok r =>
    refine ⟨r.1, r.2, rfl, ?_⟩
    rw [List.take_add_one, hs]
    exact stsC_snoc_ok hk hr
  | bad v =>
    have hsplit : l = l.take k ++ s :: l.drop (k + 1) := by
      obtain ⟨hk2, he2⟩ := List.getElem?_eq_some_iff.1 hs
      rw [← he2, ← List.drop_eq_getElem_cons hk2, List.take_append_drop]
    have := stsC_bad (m := l.drop (k + 1)) hk hr
    rw [← hsplit, h] at this
    cases this

mutual
/-- The names that an expression calls. -/
def callsE : Ex → List BA
  | .mk op _ name args => (if op = sCall then [name] else []) ++ callsL args
def callsL : List Ex → List BA
  | [] => []
  | e :: l => callsE e ++ callsL l
end
mutual
def calleesS : St → List BA
  | .mk _ _ index value thn els => callsL (value ++ index) ++ calleesL thn ++ calleesL els
def calleesL : List St → List BA
  | [] => []
  | s :: l => calleesS s ++ calleesL l
end
theorem callsL_append (l m : List Ex) : callsL (l ++ m) = callsL l ++ callsL m := by
  induction l with
  | nil => simp [callsL]
  | cons e l ih => rw [List.cons_append, callsL, callsL, ih, List.append_assoc]
theorem callsL_step {l : List Ex} {k : Nat} {e : Ex} (h : l[k]? = some e) : callsL (l.take (k + 1)) = callsL (l.take k) ++ callsE e := by
  rw [List.take_add_one, h, Option.toList_some, callsL_append]
  simp [callsL]
theorem calleesL_append (l m : List St) : calleesL (l ++ m) = calleesL l ++ calleesL m := by
  induction l with
  | nil => simp [calleesL]
  | cons e l ih => rw [List.cons_append, calleesL, calleesL, ih, List.append_assoc]
theorem calleesL_step {l : List St} {k : Nat} {s : St} (h : l[k]? = some s) : calleesL (l.take (k + 1)) = calleesL (l.take k) ++ calleesS s := by
  rw [List.take_add_one, h, Option.toList_some, calleesL_append]
  simp [calleesL]
mutual
theorem callsE_len : ∀ e : Ex, (callsE e).length ≤ e.nodes
  | .mk op num name args => by
    have := callsL_len args
    rw [callsE, Ex.nodes, List.length_append]
    split <;> simp <;> omega
theorem callsL_len : ∀ l : List Ex, (callsL l).length ≤ nodesL l
  | [] => by simp [callsL]
  | e :: l => by
    have := callsL_len l
    have := callsE_len e
    rw [callsL, nodesL, List.length_append]; omega
end
theorem nodesS_take (l : List St) (k : Nat) : nodesS (l.take k) ≤ nodesS l := by
  have := nodesS_append (l.take k) (l.drop k)
  rw [List.take_append_drop] at this
  omega
mutual
theorem calleesS_len : ∀ s : St, (calleesS s).length ≤ s.nodes
  | .mk k name index value thn els => by
    have := calleesL_len thn
    have := calleesL_len els
    have := callsL_len (value ++ index)
    rw [nodesL_append] at this
    rw [calleesS, St.nodes, List.length_append, List.length_append]; omega
theorem calleesL_len : ∀ l : List St, (calleesL l).length ≤ nodesS l
  | [] => by simp [calleesL]
  | s :: l => by
    have := calleesL_len l
    have := calleesS_len s
    rw [calleesL, nodesS, List.length_append]; omega
end
/-- The depth d' is the greatest of d and of those of the called functions and one more. -/
structure DepthIs (c : Cx) (ns : List BA) (d d' : Nat) : Prop where
  ge : d ≤ d'
  all : ∀ x ∈ ns, ∀ f, lookF x c.funcs = some f → f.depth + 1 ≤ d'
  one : d' = d ∨ ∃ x ∈ ns, ∃ f, lookF x c.funcs = some f ∧ d' = f.depth + 1
theorem DepthIs.nil (c : Cx) (d : Nat) : DepthIs c [] d d := ⟨Nat.le_refl _, fun x h => (by cases h), .inl rfl⟩
theorem DepthIs.append {c : Cx} {a b : List BA} {d d1 d2 : Nat} (h1 : DepthIs c a d d1) (h2 : DepthIs c b d1 d2) : DepthIs c (a ++ b) d d2 := by
  refine ⟨Nat.le_trans h1.ge h2.ge, fun x hx f hf => ?_, ?_⟩
  · rcases List.mem_append.1 hx with hx | hx
    · exact Nat.le_trans (h1.all x hx f hf) h2.ge
    · exact h2.all x hx f hf
  · rcases h2.one with rfl | ⟨x, hx, f, hf, rfl⟩
    · rcases h1.one with rfl | ⟨x, hx, f, hf, rfl⟩
      · exact .inl rfl
      · exact .inr ⟨x, List.mem_append_left _ hx, f, hf, rfl⟩
    · exact .inr ⟨x, List.mem_append_right _ hx, f, hf, rfl⟩
theorem DepthIs.of_mem {c : Cx} {a b : List BA} {d d1 : Nat} (h : ∀ x, x ∈ a ↔ x ∈ b) (h1 : DepthIs c a d d1) : DepthIs c b d d1 :=
  ⟨h1.ge, fun x hx => h1.all x ((h x).2 hx), h1.one.imp id fun ⟨x, hx, r⟩ => ⟨x, (h x).1 hx, r⟩⟩
theorem DepthIs.same {c : Cx} {a : List BA} {d d1 d2 : Nat} (h1 : DepthIs c a d d1) (h2 : DepthIs c a d d2) : d1 = d2 := by
  have le : ∀ {d1 d2 : Nat}, DepthIs c a d d1 → DepthIs c a d d2 → d1 ≤ d2 := fun h1 h2 => by
    rcases h1.one with rfl | ⟨x, hx, f, hf, rfl⟩
    · exact h2.ge
    · exact h2.all x hx f hf
  exact Nat.le_antisymm (le h1 h2) (le h2 h1)
theorem DepthIs.call {c : Cx} (hi : lookF sIn c.funcs = none) (ho : lookF sOut c.funcs = none) {name : BA} {ns : List Nat} {d n d' : Nat} (h : callC c name ns d = .ok (n, d')) : DepthIs c [name] d d' := by
  unfold callC at h
  have none_is : lookF name c.funcs = none → DepthIs c [name] d d := fun hn => ⟨Nat.le_refl _, fun x hx f hf => (by rw [List.mem_singleton.1 hx, hn] at hf; cases hf), .inl rfl⟩
  by_cases h1 : name = sIn
  · rw [if_pos h1] at h
    split at h
    · cases h; exact none_is (by rw [h1]; exact hi)
    · cases h
  rw [if_neg h1] at h
  by_cases h2 : name = sOut
  · rw [if_pos h2] at h
    split at h
    · cases h; exact none_is (by rw [h2]; exact ho)
    · cases h
  rw [if_neg h2] at h
  cases hf : lookF name c.funcs with
  | none => rw [hf] at h; simp only at h; split at h <;> cases h
  | some f =>
    rw [hf] at h
    simp only at h
    split at h
    · cases h
      refine ⟨by omega, fun x hx g hg => ?_, ?_⟩
      · rw [List.mem_singleton.1 hx, hf] at hg; cases hg; omega
      · by_cases hd : f.depth + 1 ≤ d
        · exact .inl (by omega)
        · exact .inr ⟨name, by simp, f, hf, by omega⟩
    · cases h
theorem DepthIs.op {c : Cx} (hi : lookF sIn c.funcs = none) (ho : lookF sOut c.funcs = none) {op name : BA} {ns : List Nat} {d n d' : Nat} (h : opC c op name ns d = .ok (n, d')) : DepthIs c (if op = sCall then [name] else []) d d' := by
  unfold opC at h
  by_cases hc : op = sCall
  · rw [if_pos hc]
    subst hc
    rw [if_neg (by decide +kernel), if_neg (by decide +kernel), if_neg (by decide +kernel), if_pos rfl] at h
    exact DepthIs.call hi ho h
  · rw [if_neg hc]
    rw [if_neg hc] at h
    have hd : d' = d := by
      by_cases h1 : op = sNum
      · rw [if_pos h1] at h; cases h; rfl
      rw [if_neg h1] at h
      by_cases h2 : op = sVar
      · rw [if_pos h2] at h; obtain ⟨_, _, h⟩ := Res.bind_okay.1 h; cases h; rfl
      rw [if_neg h2] at h
      by_cases h3 : op = sElem
      · rw [if_pos h3] at h; obtain ⟨_, _, h⟩ := Res.bind_okay.1 h; cases h; rfl
      rw [if_neg h3] at h
      by_cases h4 : op = sNeg
      · rw [if_pos h4] at h; cases h; rfl
      rw [if_neg h4] at h
      by_cases h5 : op = sNot
      · rw [if_pos h5] at h; cases h; rfl
      rw [if_neg h5] at h
      cases h; rfl
    rw [hd]
    exact DepthIs.nil c d
mutual
theorem expr_depth {c : Cx} (hi : lookF sIn c.funcs = none) (ho : lookF sOut c.funcs = none) : ∀ (e : Ex) {d n d' : Nat}, exprC c e d = .ok (n, d') → DepthIs c (callsE e) d d'
  | .mk op num name args, d, n, d', h => by
    rw [exprC] at h
    obtain ⟨_, _, h⟩ := Res.bind_okay.1 h
    obtain ⟨⟨ns, d1⟩, h2, h⟩ := Res.bind_okay.1 h
    rw [callsE]
    refine DepthIs.of_mem (a := callsL args ++ (if op = sCall then [name] else [])) (fun x => by simp only [List.mem_append]; exact Or.comm) ?_
    exact (exprs_depth hi ho args h2).append (DepthIs.op hi ho h)
theorem exprs_depth {c : Cx} (hi : lookF sIn c.funcs = none) (ho : lookF sOut c.funcs = none) : ∀ (l : List Ex) {d d' : Nat} {ns : List Nat}, exprsC c l d = .ok (ns, d') → DepthIs c (callsL l) d d'
  | [], d, d', ns, h => by
    rw [exprsC_nil] at h
    cases h
    rw [callsL]
    exact DepthIs.nil c d
  | e :: l, d, d', ns, h => by
    rw [exprsC_cons] at h
    obtain ⟨⟨n, d1⟩, h1, h⟩ := Res.bind_okay.1 h
    obtain ⟨⟨ms, d2⟩, h2, h⟩ := Res.bind_okay.1 h
    cases h
    rw [callsL]
    exact (expr_depth hi ho e h1).append (exprs_depth hi ho l h2)
end
mutual
theorem st_depth {c : Cx} (hi : lookF sIn c.funcs = none) (ho : lookF sOut c.funcs = none) : ∀ (s : St) {d n d' : Nat}, stC c s d = .ok (n, d') → DepthIs c (calleesS s) d d'
  | .mk k name index value thn els, d, n, d', h => by
    obtain ⟨vs, d1, ws, d2, t, d3, u, h1, h2, h3, h4, _⟩ := st_parts h
    rw [calleesS, callsL_append]
    exact (((exprs_depth hi ho value h1).append (exprs_depth hi ho index h2)).append (sts_depth hi ho thn h3)).append (sts_depth hi ho els h4)
theorem sts_depth {c : Cx} (hi : lookF sIn c.funcs = none) (ho : lookF sOut c.funcs = none) : ∀ (l : List St) {d n d' : Nat}, stsC c l d = .ok (n, d') → DepthIs c (calleesL l) d d'
  | [], d, n, d', h => by
    rw [stsC_nil] at h
    cases h
    rw [calleesL]
    exact DepthIs.nil c d
  | s :: l, d, n, d', h => by
    rw [stsC_cons] at h
    obtain ⟨⟨m, d1⟩, h1, h⟩ := Res.bind_okay.1 h
    obtain ⟨⟨q, d2⟩, h2, h⟩ := Res.bind_okay.1 h
    cases h
    rw [calleesL]
    exact (st_depth hi ho s h1).append (sts_depth hi ho l h2)
end

theorem lookF_mem {x : BA} {f : Sm} : ∀ {l : List (BA × Sm)}, lookF x l = some f → (x, f) ∈ l
  | (k, v) :: l, h => by
    rw [lookF] at h
    split at h
    · rename_i e; cases h; rw [e]; simp
    · exact List.mem_cons_of_mem _ (lookF_mem h)
theorem lookF_of_mem {x : BA} {f : Sm} : ∀ {l : List (BA × Sm)}, (l.map Prod.fst).Nodup → (x, f) ∈ l → lookF x l = some f
  | (k, v) :: l, hn, h => by
    rw [List.map_cons] at hn
    obtain ⟨n1, n2⟩ := List.nodup_cons.1 hn
    rw [lookF]
    rcases List.mem_cons.1 h with h | h
    · cases h; rw [if_pos rfl]
    · rw [if_neg (fun e => n1 (by rw [← e]; exact List.mem_map.2 ⟨_, h, rfl⟩))]
      exact lookF_of_mem n2 h
theorem nodup_index {α : Type} {l : List α} (h : l.Nodup) {i j : Nat} {x : α} (hi : l[i]? = some x) (hj : l[j]? = some x) : i = j := by
  obtain ⟨h1, h2⟩ := List.getElem?_eq_some_iff.1 hi
  obtain ⟨h3, h4⟩ := List.getElem?_eq_some_iff.1 hj
  rcases Nat.lt_trichotomy i j with h' | h' | h'
  · exact absurd (h2.trans h4.symm) (List.pairwise_iff_getElem.1 h i j h1 h3 h')
  · exact h'
  · exact absurd (h4.trans h2.symm) (List.pairwise_iff_getElem.1 h j i h3 h1 h')
/-- The first k functions are checked; c is what is known then. -/
structure MsIs (c0 : Cx) (fs : List Fu) (k : Nat) (c : Cx) : Prop where
  run : functionsC c0 (fs.take k) = .ok c
  names : c.funcs.reverse.map Prod.fst = (fs.take k).map Fu.name
def ndsOf (c : Cx) : List Nat := c.funcs.reverse.map fun x => x.2.need
def dpsOf (c : Cx) : List Nat := c.funcs.reverse.map fun x => x.2.depth
section
variable {c0 c : Cx} {fs : List Fu} {k : Nat}
theorem MsIs.zero (h : c0.funcs = []) : MsIs c0 fs 0 c0 := ⟨by rw [List.take_zero, functionsC], by rw [h]; simp⟩
theorem MsIs.len (h : MsIs c0 fs k c) : (ndsOf c).length = (fs.take k).length ∧ (dpsOf c).length = (fs.take k).length := by
  have := congrArg List.length h.names
  simp only [List.length_map] at this
  unfold ndsOf dpsOf
  simp only [List.length_map]
  exact ⟨this, this⟩
theorem MsIs.at (h : MsIs c0 fs k c) {j : Nat} {g : Fu} (hg : (fs.take k)[j]? = some g) : ∃ f, c.funcs.reverse[j]? = some (g.name, f) ∧ (ndsOf c)[j]? = some f.need ∧ (dpsOf c)[j]? = some f.depth := by
  have h1 : (c.funcs.reverse.map Prod.fst)[j]? = some g.name := by rw [h.names, List.getElem?_map, hg]; rfl
  rw [List.getElem?_map] at h1
  cases hx : c.funcs.reverse[j]? with
  | none => rw [hx] at h1; cases h1
  | some x =>
    obtain ⟨y, f⟩ := x
    rw [hx] at h1
    simp at h1
    subst h1
    exact ⟨f, rfl, by unfold ndsOf; rw [List.getElem?_map, hx]; rfl, by unfold dpsOf; rw [List.getElem?_map, hx]; rfl⟩
theorem MsIs.keys (h : MsIs c0 fs k c) (hn : (fs.map Fu.name).Nodup) : (c.funcs.map Prod.fst).Nodup ∧ ((fs.take k).map Fu.name).Nodup := by
  have h1 : ((fs.take k).map Fu.name).Nodup := by
    rw [List.map_take]
    exact hn.sublist (List.take_sublist _ _)
  refine ⟨?_, h1⟩
  rw [← h.names, List.map_reverse] at h1
  exact (List.reverse_perm _).nodup_iff.1 h1
theorem MsIs.look (h : MsIs c0 fs k c) (_hn : (fs.map Fu.name).Nodup) {x : BA} {f : Sm} (hf : lookF x c.funcs = some f) : ∃ (j : Nat) (g : Fu), (fs.take k)[j]? = some g ∧ g.name = x ∧ (ndsOf c)[j]? = some f.need ∧ (dpsOf c)[j]? = some f.depth := by
  obtain ⟨j, hj⟩ := List.getElem?_of_mem (List.mem_reverse.2 (lookF_mem hf))
  have h1 : ((fs.take k).map Fu.name)[j]? = some x := by rw [← h.names, List.getElem?_map, hj]; rfl
  rw [List.getElem?_map] at h1
  cases hx : (fs.take k)[j]? with
  | none => rw [hx] at h1; cases h1
  | some g =>
    rw [hx] at h1
    simp at h1
    exact ⟨j, g, hx, h1, by unfold ndsOf; rw [List.getElem?_map, hj]; rfl, by unfold dpsOf; rw [List.getElem?_map, hj]; rfl⟩
theorem MsIs.found (h : MsIs c0 fs k c) (hn : (fs.map Fu.name).Nodup) {j : Nat} {g : Fu} (hg : (fs.take k)[j]? = some g) : ∃ f, lookF g.name c.funcs = some f ∧ (ndsOf c)[j]? = some f.need ∧ (dpsOf c)[j]? = some f.depth := by
  obtain ⟨f, h1, h2, h3⟩ := h.at hg
  exact ⟨f, lookF_of_mem (h.keys hn).1 (List.mem_reverse.1 (List.mem_of_getElem? h1)), h2, h3⟩
theorem MsIs.rel (h : MsIs c0 fs k c) (hn : (fs.map Fu.name).Nodup) {c' : Cx} (hc : c'.funcs = c.funcs) : NdRel c' (fs.take k) (ndsOf c) := by
  refine ⟨h.len.1, fun x f hf => ?_⟩
  rw [hc] at hf
  obtain ⟨j, g, h1, h2, h3, _⟩ := h.look hn hf
  refine ⟨j, g, h1, h2, h3, fun i g' hi hg' => ?_⟩
  refine nodup_index (h.keys hn).2 (x := x) ?_ ?_
  · rw [List.getElem?_map, hi]; simp [hg']
  · rw [List.getElem?_map, h1]; simp [h2]
theorem MsIs.none (h : MsIs c0 fs k c) (hn : (fs.map Fu.name).Nodup) {x : BA} (hx : x ∉ fs.map Fu.name) : lookF x c.funcs = none := by
  cases hf : lookF x c.funcs with
  | none => rfl
  | some f =>
    obtain ⟨j, g, h1, h2, _⟩ := h.look hn hf
    exact absurd (List.mem_map.2 ⟨g, List.mem_of_mem_take (List.mem_of_getElem? h1), h2⟩) hx
/-- One function more. -/
theorem MsIs.step {cN : Cx} (h : MsIs c0 fs k c) (hN : functionsC c0 fs = .ok cN) {f : Fu} (hf : fs[k]? = some f) :
    ∃ r, stsC { c with name := f.name, own := f.params ++ f.locals } f.body 1 = .ok r ∧
      MsIs c0 fs (k + 1) { c with name := f.name, own := f.params ++ f.locals, funcs := (f.name, ⟨f.params.length, max 2 (max (f.params.length + 1) r.1), r.2⟩) :: c.funcs } := by
  obtain ⟨h1, h2⟩ := functionsC_step h.run hf
  cases hr : functionC c f with
  | bad v => have := h2 v hr; rw [hN] at this; cases this
  | ok c' =>
    obtain ⟨_, _, _, r, h3, rfl⟩ := function_okay.1 hr
    refine ⟨r, h3, by rw [h1, hr], ?_⟩
    rw [List.take_add_one, hf]
    simp only [List.reverse_cons, List.map_append, List.map_cons, List.map_nil, h.names, Option.toList_some]
end
theorem ndsOf_cons (c : Cx) (x : BA) (s : Sm) (o : List BA) (n : BA) : ndsOf { c with name := n, own := o, funcs := (x, s) :: c.funcs } = ndsOf c ++ [s.need] := by unfold ndsOf; simp
theorem dpsOf_cons (c : Cx) (x : BA) (s : Sm) (o : List BA) (n : BA) : dpsOf { c with name := n, own := o, funcs := (x, s) :: c.funcs } = dpsOf c ++ [s.depth] := by unfold dpsOf; simp
/-- One name's part of the depth, the first q functions looked at. -/
structure DpIn (l : List Fu) (dps : List Nat) (x : BA) (d0 : Nat) (q d : Nat) : Prop where
  ge : d0 ≤ d
  all : ∀ (i : Nat) (g : Fu) (e : Nat), i < q → l[i]? = some g → g.name = x → dps[i]? = some e → e + 1 ≤ d
  one : d = d0 ∨ ∃ (i : Nat) (g : Fu) (e : Nat), l[i]? = some g ∧ g.name = x ∧ dps[i]? = some e ∧ d = e + 1
theorem DpIn.zero (l : List Fu) (dps : List Nat) (x : BA) (d0 : Nat) : DpIn l dps x d0 0 d0 := ⟨Nat.le_refl _, fun i _ _ hi => absurd hi (Nat.not_lt_zero i), .inl rfl⟩
theorem DpIn.skip {l : List Fu} {dps : List Nat} {x : BA} {d0 q d : Nat} (h : DpIn l dps x d0 q d) {g : Fu} (hg : l[q]? = some g) (hx : g.name ≠ x) : DpIn l dps x d0 (q + 1) d :=
  ⟨h.ge, fun i g' e hi h1 h2 h3 => by
    by_cases hiq : i < q
    · exact h.all i g' e hiq h1 h2 h3
    · obtain rfl : i = q := by omega
      rw [hg] at h1; cases h1; exact absurd h2 hx, h.one⟩
theorem DpIn.take {l : List Fu} {dps : List Nat} {x : BA} {d0 q d e : Nat} (h : DpIn l dps x d0 q d) {g : Fu} (hg : l[q]? = some g) (hx : g.name = x) (he : dps[q]? = some e) : DpIn l dps x d0 (q + 1) (max d (1 + e)) := by
  refine ⟨by have := h.ge; omega, fun i g' e' hi h1 h2 h3 => ?_, ?_⟩
  · by_cases hiq : i < q
    · have := h.all i g' e' hiq h1 h2 h3; omega
    · obtain rfl : i = q := by omega
      rw [he] at h3; cases h3; omega
  · by_cases hd : 1 + e ≤ d
    · rw [Nat.max_eq_left hd]; exact h.one
    · exact .inr ⟨q, g, e, hg, hx, he, by omega⟩
theorem MsIs.depth {c0 c : Cx} {fs : List Fu} {k : Nat} (h : MsIs c0 fs k c) (hn : (fs.map Fu.name).Nodup) {c' : Cx} (hc : c'.funcs = c.funcs) {x : BA} {d0 d : Nat} (hd : DpIn (fs.take k) (dpsOf c) x d0 (fs.take k).length d) : DepthIs c' [x] d0 d := by
  refine ⟨hd.ge, fun y hy f hf => ?_, ?_⟩
  · obtain rfl := List.mem_singleton.1 hy
    rw [hc] at hf
    obtain ⟨j, g, h1, h2, _, h4⟩ := h.look hn hf
    exact hd.all j g _ (List.getElem?_eq_some_iff.1 h1).1 h1 h2 h4
  · rcases hd.one with rfl | ⟨i, g, e, h1, h2, h3, h4⟩
    · exact .inl rfl
    · obtain ⟨f, f1, _, f3⟩ := h.found hn h1
      rw [h3] at f3
      cases f3
      exact .inr ⟨x, by simp, f, by rw [hc, ← h2]; exact f1, h4⟩
/-- Bounds. -/
theorem MsIs.small {c0 : Cx} {fs : List Fu} (h0 : c0.funcs = []) : ∀ {k : Nat} {c : Cx}, functionsC c0 (fs.take k) = .ok c → Small c (2 + ((fs.take k).map wgt).sum) := by
  intro k
  induction k with
  | zero => intro c h; rw [List.take_zero, functionsC] at h; cases h; exact ⟨fun x f hf => by rw [h0] at hf; cases hf⟩
  | succ k ih =>
    intro c h
    by_cases hk : k < fs.length
    · have hf : fs[k]? = some fs[k] := List.getElem?_eq_getElem hk
      rw [List.take_add_one, hf, Option.toList_some, functionsC_append] at h
      obtain ⟨c1, h1, h2⟩ := Res.bind_okay.1 h
      rw [functionsC] at h2
      obtain ⟨c2, h3, h4⟩ := Res.bind_okay.1 h2
      rw [functionsC] at h4
      cases h4
      have := functionC_small (ih h1) (by omega) h3
      rw [List.take_add_one, hf, Option.toList_some, List.map_append, List.sum_append, List.map_cons, List.map_nil, List.sum_cons, List.sum_nil]
      rwa [Nat.add_zero, ← Nat.add_assoc]
    · rw [List.take_of_length_le (by omega)] at h ⊢
      have := ih (c := c) (by rw [List.take_of_length_le (by omega)]; exact h)
      rwa [List.take_of_length_le (by omega)] at this
theorem MsIs.bounds {c0 c : Cx} {fs : List Fu} {k : Nat} (h : MsIs c0 fs k c) (hn : (fs.map Fu.name).Nodup) {K : Nat} (hs : Small c K) : (∀ x ∈ ndsOf c, x ≤ K) ∧ ∀ x ∈ dpsOf c, x + 1 ≤ K := by
  have key : ∀ p ∈ c.funcs, lookF p.1 c.funcs = some p.2 := fun p hp => lookF_of_mem (h.keys hn).1 hp
  constructor
  · intro x hx
    unfold ndsOf at hx
    obtain ⟨p, hp, rfl⟩ := List.mem_map.1 hx
    exact (hs.funcs _ _ (key p (List.mem_reverse.1 hp))).2.1
  · intro x hx
    unfold dpsOf at hx
    obtain ⟨p, hp, rfl⟩ := List.mem_map.1 hx
    exact (hs.funcs _ _ (key p (List.mem_reverse.1 hp))).2.2
theorem wgt_size {p : Pr} : (p.funcs.map wgt).sum ≤ 5 * sizeP p := by
  unfold sizeP
  have : ∀ l : List Fu, (l.map wgt).sum ≤ 5 * (l.map fuSz).sum := by
    intro l
    induction l with
    | nil => simp
    | cons f l ih =>
      simp only [List.map_cons, List.sum_cons]
      have := nodes_szS f.body
      have h1 : fuSz f = 1 + f.name.size / 8 + f.params.length + f.locals.length + szS f.body + eighths (f.params ++ f.locals) := rfl
      have h2 : wgt f = 4 + f.params.length + f.locals.length + 5 * nodesS f.body := rfl
      omega
  have := this p.funcs
  omega
theorem wgt_take (l : List Fu) (k : Nat) : ((l.take k).map wgt).sum ≤ (l.map wgt).sum := by
  conv => rhs; rw [← List.take_append_drop k l]
  rw [List.map_append, List.sum_append]
  omega
theorem body_size {p : Pr} {f : Fu} (hf : f ∈ p.funcs) : f.params.length + f.locals.length + nodesS f.body + p.funcs.length ≤ 2 * sizeP p := by
  have h1 := fsum_mem (g := fuSz) hf
  have h2 := nodes_szS f.body
  have h3 : fuSz f = 1 + f.name.size / 8 + f.params.length + f.locals.length + szS f.body + eighths (f.params ++ f.locals) := rfl
  have h4 : ∀ l : List Fu, l.length ≤ (l.map fuSz).sum := by
    intro l
    induction l with
    | nil => simp
    | cons f l ih =>
      have h3 : fuSz f = 1 + f.name.size / 8 + f.params.length + f.locals.length + szS f.body + eighths (f.params ++ f.locals) := rfl
      simp only [List.map_cons, List.sum_cons, List.length_cons]
      omega
  have := h4 p.funcs
  unfold sizeP
  omega

theorem own_fresh (g : List BA) : ∀ (l own : List BA), (∀ v, ownC g own l = .bad v → globalsC (g ++ own) l = .bad v) ∧ (∀ k, ownC g own l = .ok k → ∃ k', globalsC (g ++ own) l = .ok k')
  | [], own => ⟨fun v h => (by rw [ownC] at h; cases h), fun k _ => ⟨_, by rw [globalsC]⟩⟩
  | x :: l, own => by
    rw [ownC, globalsC, globalC]
    cases hn : isName x with
    | false => exact ⟨fun v h => h, fun k h => by cases h⟩
    | true =>
      have e : (!decide (x ∈ g) && !decide (x ∈ own)) = !decide (x ∈ g ++ own) := by
        rw [Bool.eq_iff_iff]; simp
      rw [e]
      cases hm : decide (x ∈ g ++ own) with
      | true => exact ⟨fun v h => h, fun k h => by cases h⟩
      | false =>
        have := own_fresh g l (own ++ [x])
        rw [← List.append_assoc] at this
        exact this
theorem own_cases (g l : List BA) : (∃ v, globalsC g l = .bad v ∧ ownC g [] l = .bad v) ∨ (∃ k, globalsC g l = .ok k ∧ ownC g [] l = .ok l) := by
  have h := own_fresh g l []
  rw [List.append_nil] at h
  cases ho : ownC g [] l with
  | bad v => exact .inl ⟨v, h.1 v ho, rfl⟩
  | ok k =>
    obtain ⟨k', hk⟩ := h.2 k ho
    have := (own_okay.1 ho).1
    rw [List.nil_append] at this
    exact .inr ⟨k', hk, by rw [this]⟩
/-- All names of the program. -/
def allN (p : Pr) : List BA := p.vars ++ p.arrays.map (·.1) ++ p.funcs.map Fu.name
/-- What is known ahead of the functions. -/
def cx0 (p : Pr) : Cx := ⟨allN p, p.vars, p.arrays.map (·.1), [], ⟨#[]⟩, []⟩
def limitsOk (p : Pr) (c : Cx) : Bool := decide (scalarsN p ≤ 8000) && decide (((lookF sMain c.funcs).map Sm.need).getD 0 ≤ 200) && decide (((lookF sMain c.funcs).map Sm.depth).getD 0 ≤ 60)
theorem program_names (p : Pr) : (∀ v, globalsC [] (allN p) = .bad v → programC p = .bad v) ∧
    (∀ g, globalsC [] (allN p) = .ok g → g = allN p ∧ programC p = (arraysC 0 p.arrays).bind fun _ => (functionsC (cx0 p) p.funcs).bind fun c => (req (lastMain p) sMain 9).bind fun _ => req (limitsOk p c) sMain 6) := by
  have e : ∀ {α : Type} (f : List BA → Res α), (globalsC [] (allN p)).bind f = (globalsC [] p.vars).bind fun g1 => (globalsC g1 (p.arrays.map (·.1))).bind fun g2 => (globalsC g2 (p.funcs.map Fu.name)).bind f := by
    intro α f
    unfold allN
    rw [fresh_append, fresh_append]
    cases globalsC [] p.vars with
    | bad v => rfl
    | ok g1 =>
      simp only [Res.bind_ok]
      cases globalsC g1 (p.arrays.map (·.1)) with
      | bad v => rfl
      | ok g2 => rfl
  have hp : programC p = (globalsC [] (allN p)).bind fun g3 => (arraysC 0 p.arrays).bind fun _ =>
    (functionsC ⟨g3, p.vars, p.arrays.map (·.1), [], ⟨#[]⟩, []⟩ p.funcs).bind fun c => (req (lastMain p) sMain 9).bind fun _ => req (limitsOk p c) sMain 6 := by
    rw [e]; rfl
  refine ⟨fun v hv => by rw [hp, hv]; rfl, fun g hg => ?_⟩
  have hgg := (globals_okay.1 hg).1
  rw [List.nil_append] at hgg
  refine ⟨hgg, ?_⟩
  rw [hp, hg, hgg]
  rfl
theorem check_bad {p : Pr} {v : Viol} (h : programC p = .bad v) : check p = v := by unfold check; rw [h]
theorem function_bad {c : Cx} {f : Fu} {v : Viol} (h : ownC c.globals [] (f.params ++ f.locals) = .bad v) : functionC c f = .bad v := by unfold functionC; rw [h]; rfl
theorem function_body {c : Cx} {f : Fu} (h : ownC c.globals [] (f.params ++ f.locals) = .ok (f.params ++ f.locals)) :
    (∀ v, stsC { c with name := f.name, own := f.params ++ f.locals } f.body 1 = .bad v → functionC c f = .bad v) ∧
    (∀ r, stsC { c with name := f.name, own := f.params ++ f.locals } f.body 1 = .ok r → ∃ c', functionC c f = .ok c') := by
  unfold functionC
  rw [h]
  exact ⟨fun v hv => by rw [Res.bind_ok, hv]; rfl, fun r hr => ⟨_, by rw [Res.bind_ok, hr]; rfl⟩⟩
/-- What a check of the functions leaves of the context. -/
theorem functions_same {p : Pr} {k : Nat} {c : Cx} (h : functionsC (cx0 p) (p.funcs.take k) = .ok c) : c.globals = allN p ∧ c.vars = p.vars ∧ c.arrays = p.arrays.map (·.1) := by
  obtain ⟨_, h2, h3, h4⟩ := functions_look _ _ _ h
  exact ⟨h2, h3, h4⟩
theorem msIs_of : ∀ {c0 : Cx} {fs : List Fu} {k : Nat} {c : Cx}, c0.funcs = [] → functionsC c0 (fs.take k) = .ok c → MsIs c0 fs k c := by
  intro c0 fs k
  induction k with
  | zero =>
    intro c h0 h
    rw [List.take_zero, functionsC] at h
    cases h
    exact MsIs.zero h0
  | succ k ih =>
    intro c h0 h
    by_cases hk : k < fs.length
    · have hf : fs[k]? = some fs[k] := List.getElem?_eq_getElem hk
      have h' := h
      rw [List.take_add_one, hf, Option.toList_some, functionsC_append] at h'
      obtain ⟨c1, h1, h2⟩ := Res.bind_okay.1 h'
      rw [functionsC] at h2
      obtain ⟨c2, h3, h4⟩ := Res.bind_okay.1 h2
      rw [functionsC] at h4
      cases h4
      obtain ⟨_, _, _, r, _, rfl⟩ := function_okay.1 h3
      refine ⟨h, ?_⟩
      rw [List.take_add_one, hf]
      simp only [List.reverse_cons, List.map_append, List.map_cons, List.map_nil, (ih h0 h1).names, Option.toList_some]
    · have e1 : fs.take (k + 1) = fs.take k := by rw [List.take_of_length_le (by omega), List.take_of_length_le (by omega)]
      rw [e1] at h
      have := ih h0 h
      exact ⟨by rw [e1]; exact h, by rw [e1]; exact this.names⟩
/-- The context of a body's check: what the names refer to. -/
theorem scope_rel {p : Pr} {k : Nat} {c : Cx} (h : functionsC (cx0 p) (p.funcs.take k) = .ok c) (hn : (p.funcs.map Fu.name).Nodup) :
    (∀ x, x ∈ c.globals ↔ x ∈ c.vars ∨ x ∈ c.arrays ∨ x ∈ p.funcs.map Fu.name) ∧
    (∀ x, (lookF x c.funcs).map Sm.params = ((p.funcs.take k).find? (fun f => decide (f.name = x))).map (fun f => f.params.length)) := by
  obtain ⟨h1, h2, h3⟩ := functions_same h
  have hm := msIs_of (c0 := cx0 p) rfl h
  refine ⟨fun x => by rw [h1, h2, h3]; unfold allN; simp, fun x => ?_⟩
  have hpar : ∀ (k : Nat) (c : Cx), functionsC (cx0 p) (p.funcs.take k) = .ok c → c.funcs.reverse.map (fun q => (q.1, q.2.params)) = (p.funcs.take k).map (fun f => (f.name, f.params.length)) := by
    intro k
    induction k with
    | zero => intro c h; rw [List.take_zero, functionsC] at h; cases h; rfl
    | succ k ih =>
      intro c h
      by_cases hk : k < p.funcs.length
      · have hf : p.funcs[k]? = some p.funcs[k] := List.getElem?_eq_getElem hk
        rw [List.take_add_one, hf, Option.toList_some, functionsC_append] at h
        obtain ⟨c1, h1, h2⟩ := Res.bind_okay.1 h
        rw [functionsC] at h2
        obtain ⟨c2, h3, h4⟩ := Res.bind_okay.1 h2
        rw [functionsC] at h4
        cases h4
        obtain ⟨_, _, _, r, _, rfl⟩ := function_okay.1 h3
        rw [List.take_add_one, hf]
        simp only [List.reverse_cons, List.map_append, List.map_cons, List.map_nil, ih c1 h1, Option.toList_some]
      · have e1 : p.funcs.take (k + 1) = p.funcs.take k := by rw [List.take_of_length_le (by omega), List.take_of_length_le (by omega)]
        rw [e1] at h ⊢
        exact ih c h
  have hp := hpar k c h
  cases hf : (p.funcs.take k).find? (fun f => decide (f.name = x)) with
  | none =>
    rw [List.find?_eq_none] at hf
    cases hl : lookF x c.funcs with
    | none => rfl
    | some f =>
      obtain ⟨j, g, g1, g2, _⟩ := hm.look hn hl
      exact absurd (decide_eq_true g2) (hf g (List.mem_of_getElem? g1))
  | some g =>
    have hg1 := List.mem_of_find?_eq_some hf
    have hg2 : g.name = x := by simpa using List.find?_some hf
    have : (x, g.params.length) ∈ (p.funcs.take k).map (fun f => (f.name, f.params.length)) := List.mem_map.2 ⟨g, hg1, by rw [hg2]⟩
    rw [← hp] at this
    obtain ⟨⟨y, s⟩, hs, he⟩ := List.mem_map.1 this
    simp only [Prod.mk.injEq] at he
    obtain ⟨rfl, he⟩ := he
    rw [lookF_of_mem (hm.keys hn).1 (List.mem_reverse.1 hs)]
    simp [he]
/-- The last function's need and depth. -/
theorem last_need {p : Pr} {c : Cx} (h : functionsC (cx0 p) p.funcs = .ok c) (hn : (p.funcs.map Fu.name).Nodup) {n : Nat} (hl : p.funcs.length = n + 1) {f : Fu} (hf : p.funcs[n]? = some f) (hm : f.name = sMain) :
    ∃ a b, (ndsOf c)[n]? = some a ∧ (dpsOf c)[n]? = some b ∧ ((lookF sMain c.funcs).map Sm.need).getD 0 = a ∧ ((lookF sMain c.funcs).map Sm.depth).getD 0 = b := by
  have hms : MsIs (cx0 p) p.funcs (n + 1) c := msIs_of rfl (by rw [← hl, List.take_length]; exact h)
  obtain ⟨g, h1, h2, h3⟩ := hms.found hn (j := n) (g := f) (by rw [← hl, List.take_length]; exact hf)
  rw [hm] at h1
  exact ⟨_, _, h2, h3, by rw [h1]; rfl, by rw [h1]; rfl⟩
theorem last_is {p : Pr} {n : Nat} (hl : p.funcs.length = n + 1) {f : Fu} (hf : p.funcs[n]? = some f) : lastMain p = (decide (f.name = sMain) && decide (f.params.length = 0)) := by
  unfold lastMain
  rw [List.getLast?_eq_getElem?, hl, Nat.add_sub_cancel, hf]
theorem last_none {p : Pr} (hl : p.funcs.length = 0) : lastMain p = false := by
  unfold lastMain
  rw [List.eq_nil_of_length_eq_zero hl]
  rfl
theorem allN_nodup {p : Pr} {g : List BA} (h : globalsC [] (allN p) = .ok g) : (p.funcs.map Fu.name).Nodup ∧ sIn ∉ p.funcs.map Fu.name ∧ sOut ∉ p.funcs.map Fu.name := by
  obtain ⟨_, h2, _, h4⟩ := globals_okay.1 h
  unfold allN at h2 h4
  refine ⟨(List.nodup_append.1 h4).2.1, fun hm => ?_, fun hm => ?_⟩
  · exact absurd (h2 sIn (List.mem_append_right _ hm)) (by decide +kernel)
  · exact absurd (h2 sOut (List.mem_append_right _ hm)) (by decide +kernel)
end Go.Proofs.Ytgimdbflpdmlmaa.Ck
