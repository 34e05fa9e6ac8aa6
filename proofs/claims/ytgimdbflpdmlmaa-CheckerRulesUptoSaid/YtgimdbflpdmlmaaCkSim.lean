/- What the checker passes, it passes with more names to refer to and with functions that need no more: no program in sight. -/
import Derived.Test.YtgimdbflpdmlmaaCkValid
import Derived.Test.YtgimdbflpdmlmaaCkUses
namespace Go.Proofs.Ytgimdbflpdmlmaa.Ck
set_option maxRecDepth 100000
open Go.Proofs.Ytgimdbflpdmlmaa

/-- No greater, number by number. -/
inductive LeL : List Nat → List Nat → Prop
  | nil : LeL [] []
  | cons {a b : Nat} {l m : List Nat} : a ≤ b → LeL l m → LeL (a :: l) (b :: m)
theorem LeL.length {l m : List Nat} (h : LeL l m) : l.length = m.length := by
  induction h with
  | nil => rfl
  | cons _ _ ih => simp [ih]
theorem LeL.getD {l m : List Nat} (h : LeL l m) : ∀ i, l.getD i 0 ≤ m.getD i 0 := by
  induction h with
  | nil => intro i; simp
  | cons h1 _ ih =>
    intro i
    cases i with
    | zero => exact h1
    | succ i => exact ih i
theorem LeL.needFrom {l m : List Nat} (h : LeL l m) : ∀ (k a b : Nat), a ≤ b → Ck.needFrom k a l ≤ Ck.needFrom k b m := by
  induction h with
  | nil => intro k a b hab; exact hab
  | cons h1 _ ih =>
    intro k a b hab
    rw [Ck.needFrom, Ck.needFrom]
    exact ih _ _ _ (by omega)
def SmLe (f' f : Sm) : Prop := f'.params = f.params ∧ f'.need ≤ f.need ∧ f'.depth ≤ f.depth
/-- Whatever c lets an expression refer to, c' does, as far as U goes. -/
structure Sim (U : BA → Prop) (c c' : Cx) : Prop where
  sc : ∀ x, x ∈ c.vars ∨ x ∈ c.own → x ∈ c'.vars ∨ x ∈ c'.own
  ar : ∀ x, x ∈ c.arrays → x ∈ c'.arrays
  fn : ∀ nm f, U nm → lookF nm c.funcs = some f → ∃ f', lookF nm c'.funcs = some f' ∧ SmLe f' f
section
variable {U : BA → Prop} {c c' : Cx}
theorem sim_scalar (h : Sim U c c') {name : BA} {u : Unit} (hs : scalarC c name = .ok u) : scalarC c' name = .ok () := by
  unfold scalarC at hs ⊢
  split at hs
  · rename_i hn
    rw [if_pos (h.sc name hn)]
  · split at hs <;> cases hs
theorem sim_array (h : Sim U c c') {name : BA} {u : Unit} (hs : arrayC c name = .ok u) : arrayC c' name = .ok () := by
  unfold arrayC at hs ⊢
  split at hs
  · rename_i hn
    rw [if_pos (h.ar name hn)]
  · split at hs <;> cases hs
theorem sim_call (h : Sim U c c') {name : BA} {ns ns' : List Nat} {d d' n d1 : Nat} (hU : U name) (hl : LeL ns' ns) (hd : d' ≤ d) (hs : callC c name ns d = .ok (n, d1)) : ∃ n' d1', callC c' name ns' d' = .ok (n', d1') ∧ n' ≤ n ∧ d1' ≤ d1 := by
  have hlen := hl.length
  unfold callC at hs ⊢
  split at hs
  · rename_i h1
    rw [if_pos h1]
    split at hs
    · rename_i h2
      rw [if_pos (by omega)]
      cases hs
      exact ⟨1, d', rfl, Nat.le_refl _, hd⟩
    · cases hs
  · rename_i h1
    rw [if_neg h1]
    split at hs
    · rename_i h2
      rw [if_pos h2]
      split at hs
      · rename_i h3
        rw [if_pos (by omega)]
        cases hs
        exact ⟨_, d', rfl, hl.getD 0, hd⟩
      · cases hs
    · rename_i h2
      rw [if_neg h2]
      cases hf : lookF name c.funcs with
      | none =>
        rw [hf] at hs
        simp only at hs
        split at hs <;> cases hs
      | some f =>
        obtain ⟨f', hf', h3, h4, h5⟩ := h.fn name f hU hf
        rw [hf] at hs
        rw [hf']
        simp only at hs ⊢
        split at hs
        · rename_i h6
          rw [if_pos (by omega)]
          cases hs
          exact ⟨_, _, rfl, hl.needFrom _ _ _ (by omega), by omega⟩
        · cases hs
theorem needBin_le {op : BA} {a a' b b' : Nat} (h1 : a' ≤ a) (h2 : b' ≤ b) : needBin op a' b' ≤ needBin op a b := by
  unfold needBin
  split
  · omega
  split
  · omega
  split
  · omega
  split <;> omega
theorem sim_op (h : Sim U c c') {op name : BA} {ns ns' : List Nat} {d d' n d1 : Nat} (hU : op = sCall → U name) (hl : LeL ns' ns) (hd : d' ≤ d) (hs : opC c op name ns d = .ok (n, d1)) : ∃ n' d1', opC c' op name ns' d' = .ok (n', d1') ∧ n' ≤ n ∧ d1' ≤ d1 := by
  have h0 := hl.getD 0
  have h1 := hl.getD 1
  unfold opC at hs ⊢
  split at hs
  · rename_i g; rw [if_pos g]; cases hs; exact ⟨_, _, rfl, Nat.le_refl _, hd⟩
  rename_i g; rw [if_neg g]; clear g
  split at hs
  · rename_i g
    rw [if_pos g]
    obtain ⟨u, hu, hv⟩ := Res.bind_okay.1 hs
    cases hv
    rw [sim_scalar h hu]
    exact ⟨_, _, rfl, Nat.le_refl _, hd⟩
  rename_i g; rw [if_neg g]; clear g
  split at hs
  · rename_i g
    rw [if_pos g]
    obtain ⟨u, hu, hv⟩ := Res.bind_okay.1 hs
    cases hv
    rw [sim_array h hu]
    exact ⟨_, _, rfl, by omega, hd⟩
  rename_i g; rw [if_neg g]; clear g
  split at hs
  · rename_i g
    rw [if_pos g]
    exact sim_call h (hU g) hl hd hs
  rename_i g; rw [if_neg g]; clear g
  split at hs
  · rename_i g; rw [if_pos g]; cases hs; exact ⟨_, _, rfl, by omega, hd⟩
  rename_i g; rw [if_neg g]; clear g
  split at hs
  · rename_i g; rw [if_pos g]; cases hs; exact ⟨_, _, rfl, by omega, hd⟩
  rename_i g; rw [if_neg g]; clear g
  cases hs
  exact ⟨_, _, rfl, needBin_le h0 h1, hd⟩
mutual
theorem sim_expr (h : Sim U c c') : ∀ (e : Ex) (d d' n d1 : Nat), exprC c e d = .ok (n, d1) → d' ≤ d → (∀ nm, e.uses nm = true → U nm) → ∃ n' d1', exprC c' e d' = .ok (n', d1') ∧ n' ≤ n ∧ d1' ≤ d1
  | .mk op num name args, d, d', n, d1, hs, hd, hU => by
    rw [exprC] at hs ⊢
    obtain ⟨u, h1, hs⟩ := Res.bind_okay.1 hs
    obtain ⟨⟨ns, d2⟩, h2, h3⟩ := Res.bind_okay.1 hs
    obtain ⟨ns', d2', g2, hl, hd2⟩ := sim_exprs h args d d' ns d2 h2 hd (fun nm hn => hU nm (by rw [Ex.uses, hn, Bool.or_true]))
    obtain ⟨n', d1', g3, hn, hd1⟩ := sim_op h (fun e => hU name (by rw [Ex.uses, decide_eq_true e, decide_eq_true rfl]; rfl)) hl hd2 h3
    have h1' := req_okay.1 h1
    refine ⟨n', d1', ?_, hn, hd1⟩
    rw [Res.bind_okay]
    exact ⟨(), req_okay.2 h1', Res.bind_okay.2 ⟨_, g2, g3⟩⟩
theorem sim_exprs (h : Sim U c c') : ∀ (l : List Ex) (d d' : Nat) (ns : List Nat) (d1 : Nat), exprsC c l d = .ok (ns, d1) → d' ≤ d → (∀ nm, usesL nm l = true → U nm) → ∃ ns' d1', exprsC c' l d' = .ok (ns', d1') ∧ LeL ns' ns ∧ d1' ≤ d1
  | [], d, d', ns, d1, hs, hd, _ => by
    rw [exprsC] at hs ⊢
    cases hs
    exact ⟨_, _, rfl, .nil, hd⟩
  | e :: l, d, d', ns, d1, hs, hd, hU => by
    rw [exprsC] at hs ⊢
    obtain ⟨⟨n1, d2⟩, h1, hs⟩ := Res.bind_okay.1 hs
    obtain ⟨⟨ms, d3⟩, h2, h3⟩ := Res.bind_okay.1 hs
    cases h3
    obtain ⟨n1', d2', g1, hn1, hd2⟩ := sim_expr h e d d' n1 d2 h1 hd (fun nm hn => hU nm (by rw [usesL, hn, Bool.true_or]))
    obtain ⟨ms', d3', g2, hl, hd3⟩ := sim_exprs h l d2 d2' ms d3 h2 hd2 (fun nm hn => hU nm (by rw [usesL, hn, Bool.or_true]))
    exact ⟨_, _, Res.bind_okay.2 ⟨_, g1, Res.bind_okay.2 ⟨_, g2, rfl⟩⟩, .cons hn1 hl, hd3⟩
end
theorem sim_first (h : Sim U c c') {l : List Ex} {d d' n d1 : Nat} (hs : first c l d = .ok (n, d1)) (hd : d' ≤ d) (hU : ∀ nm, usesL nm l = true → U nm) : ∃ n' d1', first c' l d' = .ok (n', d1') ∧ n' ≤ n ∧ d1' ≤ d1 := by
  cases l with
  | nil => cases hs; exact ⟨_, _, rfl, Nat.le_refl _, hd⟩
  | cons e l => exact sim_expr h e d d' n d1 hs hd (fun nm hn => hU nm (by rw [usesL, hn, Bool.true_or]))
mutual
theorem sim_st (h : Sim U c c') : ∀ (s : St) (d d' n d1 : Nat), stC c s d = .ok (n, d1) → d' ≤ d → (∀ nm, s.uses nm = true → U nm) → ∃ n' d1', stC c' s d' = .ok (n', d1') ∧ n' ≤ n ∧ d1' ≤ d1
  | .mk k name index value thn els, d, d', n, d1, hs, hd, hU => by
    have uV : ∀ nm, usesL nm value = true → U nm := fun nm hn => hU nm (by rw [St.uses, usesL_append, hn]; rfl)
    have uI : ∀ nm, usesL nm index = true → U nm := fun nm hn => hU nm (by rw [St.uses, usesL_append, hn, Bool.or_true]; rfl)
    have uT : ∀ nm, usesS nm thn = true → U nm := fun nm hn => hU nm (by rw [St.uses, hn]; simp)
    have uE : ∀ nm, usesS nm els = true → U nm := fun nm hn => hU nm (by rw [St.uses, hn]; simp)
    rw [stC] at hs ⊢
    obtain ⟨u, h1, hs⟩ := Res.bind_okay.1 hs
    have h1' := req_okay.1 h1
    rw [h1', show req true c'.name 3 = .ok () from rfl, Res.bind_ok]
    split at hs
    · rename_i g; rw [if_pos g]; cases hs; exact ⟨_, _, rfl, Nat.le_refl _, hd⟩
    rename_i g; rw [if_neg g]; clear g
    obtain ⟨⟨n1, d2⟩, k1, hs⟩ := Res.bind_okay.1 hs
    obtain ⟨n1', d2', k1', hn1, hd2⟩ := sim_first h k1 hd uV
    rw [k1', Res.bind_ok]
    simp only at hs ⊢
    split at hs
    · rename_i g
      rw [if_pos g]
      obtain ⟨u2, k2, hs⟩ := Res.bind_okay.1 hs
      cases hs
      rw [sim_scalar h k2, Res.bind_ok]
      exact ⟨_, _, rfl, by omega, hd2⟩
    rename_i g; rw [if_neg g]; clear g
    split at hs
    · rename_i g
      rw [if_pos g]
      obtain ⟨⟨n2, d3⟩, k2, hs⟩ := Res.bind_okay.1 hs
      obtain ⟨n2', d3', k2', hn2, hd3⟩ := sim_first h k2 hd2 uI
      rw [k2', Res.bind_ok]
      obtain ⟨u2, k3, hs⟩ := Res.bind_okay.1 hs
      cases hs
      rw [sim_array h k3, Res.bind_ok]
      exact ⟨_, _, rfl, by simp only; omega, hd3⟩
    rename_i g; rw [if_neg g]; clear g
    split at hs
    · rename_i g; rw [if_pos g]; cases hs; exact ⟨_, _, rfl, hn1, hd2⟩
    rename_i g; rw [if_neg g]; clear g
    split at hs
    · rename_i g
      rw [if_pos g]
      obtain ⟨⟨n2, d3⟩, k2, hs⟩ := Res.bind_okay.1 hs
      obtain ⟨n2', d3', k2', hn2, hd3⟩ := sim_sts h thn d2 d2' n2 d3 k2 hd2 uT
      rw [k2', Res.bind_ok]
      obtain ⟨⟨n3, d4⟩, k3, hs⟩ := Res.bind_okay.1 hs
      obtain ⟨n3', d4', k3', hn3, hd4⟩ := sim_sts h els d3 d3' n3 d4 k3 hd3 uE
      rw [k3', Res.bind_ok]
      cases hs
      exact ⟨_, _, rfl, by simp only; omega, hd4⟩
    rename_i g; rw [if_neg g]; clear g
    cases hs
    exact ⟨_, _, rfl, by omega, hd2⟩
theorem sim_sts (h : Sim U c c') : ∀ (l : List St) (d d' n d1 : Nat), stsC c l d = .ok (n, d1) → d' ≤ d → (∀ nm, usesS nm l = true → U nm) → ∃ n' d1', stsC c' l d' = .ok (n', d1') ∧ n' ≤ n ∧ d1' ≤ d1
  | [], d, d', n, d1, hs, hd, _ => by
    rw [stsC] at hs ⊢
    cases hs
    exact ⟨_, _, rfl, Nat.le_refl _, hd⟩
  | s :: l, d, d', n, d1, hs, hd, hU => by
    rw [stsC] at hs ⊢
    obtain ⟨⟨n1, d2⟩, h1, hs⟩ := Res.bind_okay.1 hs
    obtain ⟨⟨n2, d3⟩, h2, h3⟩ := Res.bind_okay.1 hs
    cases h3
    obtain ⟨n1', d2', g1, hn1, hd2⟩ := sim_st h s d d' n1 d2 h1 hd (fun nm hn => hU nm (by rw [usesS, hn, Bool.true_or]))
    obtain ⟨n2', d3', g2, hn2, hd3⟩ := sim_sts h l d2 d2' n2 d3 h2 hd2 (fun nm hn => hU nm (by rw [usesS, hn, Bool.or_true]))
    exact ⟨_, _, Res.bind_okay.2 ⟨_, g1, Res.bind_okay.2 ⟨_, g2, rfl⟩⟩, by simp only; omega, hd3⟩
end
end
/-- A function that is as f, but for statements at the end of its body. -/
structure FuLe (f' f : Fu) : Prop where
  name : f'.name = f.name
  params : f'.params = f.params
  locals : f'.locals = f.locals
  body : ∃ l, f.body = f'.body ++ l
theorem FuLe.refl (f : Fu) : FuLe f f := ⟨rfl, rfl, rfl, [], by simp⟩
mutual
theorem depth_expr (c : Cx) : ∀ (e : Ex) (d n d1 : Nat), exprC c e d = .ok (n, d1) → d ≤ d1
  | .mk op num name args, d, n, d1, hs => by
    rw [exprC] at hs
    obtain ⟨u, h1, hs⟩ := Res.bind_okay.1 hs
    obtain ⟨⟨ns, d2⟩, h2, h3⟩ := Res.bind_okay.1 hs
    have hd := depth_exprs c args d ns d2 h2
    have : ∀ {d d1 : Nat}, opC c op name ns d = .ok (n, d1) → d ≤ d1 := fun {d d1} h => by
      unfold opC at h
      split at h
      · cases h; omega
      split at h
      · obtain ⟨_, _, h⟩ := Res.bind_okay.1 h; cases h; omega
      split at h
      · obtain ⟨_, _, h⟩ := Res.bind_okay.1 h; cases h; omega
      split at h
      · unfold callC at h
        split at h
        · split at h
          · cases h; omega
          · cases h
        split at h
        · split at h
          · cases h; omega
          · cases h
        split at h
        · split at h <;> cases h
        · split at h
          · cases h; omega
          · cases h
      split at h
      · cases h; omega
      split at h
      · cases h; omega
      · cases h; omega
    exact Nat.le_trans hd (this h3)
theorem depth_exprs (c : Cx) : ∀ (l : List Ex) (d : Nat) (ns : List Nat) (d1 : Nat), exprsC c l d = .ok (ns, d1) → d ≤ d1
  | [], d, ns, d1, hs => by rw [exprsC] at hs; cases hs; omega
  | e :: l, d, ns, d1, hs => by
    rw [exprsC] at hs
    obtain ⟨⟨n1, d2⟩, h1, hs⟩ := Res.bind_okay.1 hs
    obtain ⟨⟨ms, d3⟩, h2, h3⟩ := Res.bind_okay.1 hs
    cases h3
    have := depth_expr c e d n1 d2 h1
    have := depth_exprs c l d2 ms d3 h2
    omega
end
theorem depth_first {c : Cx} {l : List Ex} {d n d1 : Nat} (hs : first c l d = .ok (n, d1)) : d ≤ d1 := by
  cases l with
  | nil => cases hs; omega
  | cons e l => exact depth_expr c e d n d1 hs
mutual
theorem depth_st (c : Cx) : ∀ (s : St) (d n d1 : Nat), stC c s d = .ok (n, d1) → d ≤ d1
  | .mk k name index value thn els, d, n, d1, hs => by
    rw [stC] at hs
    obtain ⟨u, h1, hs⟩ := Res.bind_okay.1 hs
    split at hs
    · cases hs; omega
    obtain ⟨⟨n1, d2⟩, k1, hs⟩ := Res.bind_okay.1 hs
    have j1 := depth_first k1
    split at hs
    · obtain ⟨_, _, hs⟩ := Res.bind_okay.1 hs; cases hs; exact j1
    split at hs
    · obtain ⟨⟨n2, d3⟩, k2, hs⟩ := Res.bind_okay.1 hs
      have j2 := depth_first k2
      obtain ⟨_, _, hs⟩ := Res.bind_okay.1 hs
      cases hs
      simp only at j2 ⊢
      omega
    split at hs
    · cases hs; exact j1
    split at hs
    · obtain ⟨⟨n2, d3⟩, k2, hs⟩ := Res.bind_okay.1 hs
      have j2 := depth_sts c thn _ _ _ k2
      obtain ⟨⟨n3, d4⟩, k3, hs⟩ := Res.bind_okay.1 hs
      have j3 := depth_sts c els _ _ _ k3
      cases hs
      simp only at j2 j3 ⊢
      omega
    · cases hs; exact j1
theorem depth_sts (c : Cx) : ∀ (l : List St) (d n d1 : Nat), stsC c l d = .ok (n, d1) → d ≤ d1
  | [], d, n, d1, hs => by rw [stsC] at hs; cases hs; omega
  | s :: l, d, n, d1, hs => by
    rw [stsC] at hs
    obtain ⟨⟨n1, d2⟩, h1, hs⟩ := Res.bind_okay.1 hs
    obtain ⟨⟨n2, d3⟩, h2, h3⟩ := Res.bind_okay.1 hs
    cases h3
    have := depth_st c s d n1 d2 h1
    have := depth_sts c l d2 n2 d3 h2
    omega
end
/-- Fewer statements need no more. -/
theorem sts_prefix {c : Cx} : ∀ (l m : List St) (d n d1 : Nat), stsC c (l ++ m) d = .ok (n, d1) → ∃ n' d1', stsC c l d = .ok (n', d1') ∧ n' ≤ n ∧ d1' ≤ d1
  | [], m, d, n, d1, h => ⟨0, d, by rw [stsC], Nat.zero_le _, depth_sts c m d n d1 h⟩
  | s :: l, m, d, n, d1, h => by
    rw [List.cons_append, stsC] at h
    obtain ⟨⟨n1, d2⟩, h1, h⟩ := Res.bind_okay.1 h
    obtain ⟨⟨n2, d3⟩, h2, h3⟩ := Res.bind_okay.1 h
    cases h3
    obtain ⟨n', d1', g, hn, hd⟩ := sts_prefix l m d2 n2 d3 h2
    refine ⟨_, _, by rw [stsC]; exact Res.bind_okay.2 ⟨_, h1, Res.bind_okay.2 ⟨_, g, rfl⟩⟩, by simp only; omega, hd⟩
/-- One function, in another context. -/
theorem sim_function {U : BA → Prop} {c c' e : Cx} {f f' : Fu} (hs : functionC c f = .ok e) (hf : FuLe f' f) (hv : ∀ x ∈ c.vars, x ∈ c'.vars) (ha : ∀ x ∈ c.arrays, x ∈ c'.arrays)
    (hfn : ∀ nm g, U nm → lookF nm c.funcs = some g → ∃ g', lookF nm c'.funcs = some g' ∧ SmLe g' g) (hU : ∀ nm, usesS nm f.body = true → U nm) (hg : ∀ x ∈ f.params ++ f.locals, x ∉ c'.globals) :
    ∃ sm sm', SmLe sm' sm ∧ e = { c with name := f.name, own := f.params ++ f.locals, funcs := (f.name, sm) :: c.funcs } ∧ functionC c' f' = .ok { c' with name := f.name, own := f.params ++ f.locals, funcs := (f.name, sm') :: c'.funcs } := by
  obtain ⟨h1, h2, h3, ⟨n, d⟩, h4, rfl⟩ := function_okay.1 hs
  obtain ⟨l, hl⟩ := hf.body
  rw [hl] at h4
  obtain ⟨n1, d1, h5, hn, hd⟩ := sts_prefix _ _ _ _ _ h4
  have hsim : Sim U { c with name := f.name, own := f.params ++ f.locals } { c' with name := f.name, own := f.params ++ f.locals } := ⟨fun x hx => hx.imp (hv x) id, ha, hfn⟩
  obtain ⟨n', d', h6, hn', hd'⟩ := sim_sts hsim f'.body 1 1 n1 d1 h5 (Nat.le_refl _) (fun nm hnm => hU nm (by rw [hl, usesS_append, hnm]; rfl))
  refine ⟨⟨f.params.length, max 2 (max (f.params.length + 1) n), d⟩, ⟨f.params.length, max 2 (max (f.params.length + 1) n'), d'⟩, ⟨rfl, ?_, ?_⟩, rfl, function_okay.2 ⟨?_, ?_, ?_, ⟨n', d'⟩, ?_, ?_⟩⟩
  · simp only; omega
  · simp only; omega
  · rw [hf.params, hf.locals]; exact h1
  · rw [hf.params, hf.locals]; exact hg
  · rw [hf.params, hf.locals]; exact h3
  · rw [hf.params, hf.locals, hf.name]; exact h6
  · rw [hf.params, hf.locals, hf.name]
def FsLe (a a' : List (BA × Sm)) : Prop := ∀ nm f, lookF nm a = some f → ∃ f', lookF nm a' = some f' ∧ SmLe f' f
theorem FsLe.cons {a a' : List (BA × Sm)} (h : FsLe a a') {n : BA} {f f' : Sm} (hf : SmLe f' f) : FsLe ((n, f) :: a) ((n, f') :: a') := fun nm g hg => by
  rw [lookF] at hg ⊢
  split at hg
  · rename_i e; rw [if_pos e]; cases hg; exact ⟨_, rfl, hf⟩
  · rename_i e; rw [if_neg e]; exact h nm g hg
structure SimC (c c' : Cx) : Prop where
  vars : ∀ x ∈ c.vars, x ∈ c'.vars
  arrays : ∀ x ∈ c.arrays, x ∈ c'.arrays
  funcs : FsLe c.funcs c'.funcs
inductive FusLe : List Fu → List Fu → Prop
  | nil : FusLe [] []
  | cons {f f' : Fu} {l l' : List Fu} : FuLe f' f → FusLe l' l → FusLe (f' :: l') (f :: l)
theorem FusLe.refl : ∀ l, FusLe l l
  | [] => .nil
  | f :: l => .cons (FuLe.refl f) (FusLe.refl l)
theorem sim_functions : ∀ (l l' : List Fu) (c c' e : Cx), FusLe l' l → functionsC c l = .ok e → SimC c c' → (∀ f ∈ l, ∀ x ∈ f.params ++ f.locals, x ∉ c'.globals) → ∃ e', functionsC c' l' = .ok e' ∧ SimC e e' ∧ e'.globals = c'.globals
  | _, _, c, c', e, .nil, hs, hc, _ => by
    rw [functionsC] at hs ⊢
    cases hs
    exact ⟨_, rfl, hc, rfl⟩
  | f :: l, f' :: l', c, c', e, .cons h1 h2, hs, hc, hg => by
    rw [functionsC] at hs ⊢
    obtain ⟨c1, k1, hs⟩ := Res.bind_okay.1 hs
    obtain ⟨sm, sm', hsm, rfl, k2⟩ := sim_function (U := fun _ => True) k1 h1 hc.vars hc.arrays (fun nm g _ h => hc.funcs nm g h) (fun _ _ => trivial) (hg f (by simp))
    rw [k2, Res.bind_ok]
    exact sim_functions l l' _ _ e h2 hs ⟨hc.vars, hc.arrays, hc.funcs.cons hsm⟩ (fun g hg' => hg g (by simp [hg']))
theorem functions_append (l m : List Fu) : ∀ c, functionsC c (l ++ m) = (functionsC c l).bind fun c1 => functionsC c1 m := by
  induction l with
  | nil => intro c; rfl
  | cons f l ih =>
    intro c
    rw [List.cons_append, functionsC, functionsC]
    cases functionC c f with
    | bad v => rfl
    | ok c1 => exact ih c1
/-- What main may need and how deep it may go: no more in the better context. -/
theorem main_le {a a' : List (BA × Sm)} (h : FsLe a a') (hm : (lookF sMain a).isSome = true) (h1 : ((lookF sMain a).map Sm.need).getD 0 ≤ 200) (h2 : ((lookF sMain a).map Sm.depth).getD 0 ≤ 60) :
    ((lookF sMain a').map Sm.need).getD 0 ≤ 200 ∧ ((lookF sMain a').map Sm.depth).getD 0 ≤ 60 := by
  cases hf : lookF sMain a with
  | none => rw [hf] at hm; cases hm
  | some f =>
    obtain ⟨f', hf', _, h3, h4⟩ := h sMain f hf
    rw [hf] at h1 h2
    rw [hf']
    simp only [Option.map_some, Option.getD_some] at h1 h2 ⊢
    omega
theorem functions_look : ∀ (l : List Fu) (c e : Cx), functionsC c l = .ok e → (∀ nm, (nm ∈ l.map Fu.name ∨ (lookF nm c.funcs).isSome = true) ↔ (lookF nm e.funcs).isSome = true) ∧ e.globals = c.globals ∧ e.vars = c.vars ∧ e.arrays = c.arrays
  | [], c, e, h => by
    rw [functionsC] at h
    cases h
    exact ⟨fun nm => by simp, rfl, rfl, rfl⟩
  | f :: l, c, e, h => by
    rw [functionsC] at h
    obtain ⟨c1, k1, h⟩ := Res.bind_okay.1 h
    obtain ⟨_, _, _, r, _, rfl⟩ := function_okay.1 k1
    obtain ⟨h1, h2, h3, h4⟩ := functions_look l _ e h
    refine ⟨fun nm => ?_, h2, h3, h4⟩
    rw [← h1 nm, List.map_cons, List.mem_cons]
    simp only [lookF]
    by_cases e : nm = f.name
    · rw [if_pos e]; simp [e]
    · rw [if_neg e]; simp [e]
theorem last_main_look {p : Pr} {c e : Cx} (h : functionsC c p.funcs = .ok e) (hm : lastMain p = true) : (lookF sMain e.funcs).isSome = true := by
  unfold lastMain at hm
  split at hm
  · cases hm
  · rename_i f hf
    simp only [Bool.and_eq_true, decide_eq_true_eq] at hm
    refine ((functions_look _ _ _ h).1 sMain).1 (.inl ?_)
    rw [← hm.1]
    exact List.mem_map.2 ⟨f, List.mem_of_getLast? hf, rfl⟩
end Go.Proofs.Ytgimdbflpdmlmaa.Ck
