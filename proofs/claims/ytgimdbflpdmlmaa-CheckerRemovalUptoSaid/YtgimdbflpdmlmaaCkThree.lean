/- Valid programs stay valid: neighbors exchanged, statements struck at a function's end, a variable added. No program in sight. -/
import Derived.Test.YtgimdbflpdmlmaaCkSim
namespace Go.Proofs.Ytgimdbflpdmlmaa.Ck
set_option maxRecDepth 100000
open Go.Proofs.Ytgimdbflpdmlmaa

theorem perm_swap (l1 l2 : List Fu) (f g : Fu) : (l1 ++ g :: f :: l2).Perm (l1 ++ f :: g :: l2) := List.Perm.append_left _ (List.Perm.swap f g l2)
theorem swap_valid {p : Pr} {l1 l2 : List Fu} {f g : Fu} (hp : programC p = .ok ()) (hfs : p.funcs = l1 ++ f :: g :: l2) (h2 : l2 ≠ []) (hu : usesS f.name g.body = false) : programC ⟨p.vars, p.arrays, l1 ++ g :: f :: l2⟩ = .ok () := by
  obtain ⟨h1, hnd, hA, e, hF, hm, hsc, hne, hde⟩ := program_okay.1 hp
  rw [program_okay]
  have hperm : (p.vars ++ p.arrays.map (·.1) ++ (l1 ++ g :: f :: l2).map Fu.name).Perm (p.vars ++ p.arrays.map (·.1) ++ p.funcs.map Fu.name) := by
    rw [hfs]
    exact List.Perm.append_left _ ((perm_swap l1 l2 f g).map _)
  have hmem : ∀ x, x ∈ p.vars ++ p.arrays.map (·.1) ++ (l1 ++ g :: f :: l2).map Fu.name ↔ x ∈ p.vars ++ p.arrays.map (·.1) ++ p.funcs.map Fu.name := fun x => hperm.mem_iff
  have hnf : (p.funcs.map Fu.name).Nodup := (List.nodup_append.1 hnd).2.1
  have hfg : f.name ≠ g.name ∧ g.name ∉ l1.map Fu.name := by
    rw [hfs, List.map_append, List.map_cons, List.map_cons] at hnf
    obtain ⟨_, n2, n3⟩ := List.nodup_append.1 hnf
    refine ⟨fun e => (List.nodup_cons.1 n2).1 (by rw [e]; simp), fun hx => n3 _ hx g.name (by simp) rfl⟩
  have hown := functions_own hF
  rw [hfs, functions_append] at hF
  obtain ⟨c1, k1, hF⟩ := Res.bind_okay.1 hF
  rw [functionsC] at hF
  obtain ⟨c2, k2, hF⟩ := Res.bind_okay.1 hF
  rw [functionsC] at hF
  obtain ⟨c3, k3, hF⟩ := Res.bind_okay.1 hF
  obtain ⟨look1, glob1, var1, arr1⟩ := functions_look _ _ _ k1
  have hgl : ∀ (G : List BA), (∀ x, x ∈ G ↔ x ∈ p.vars ++ p.arrays.map (·.1) ++ p.funcs.map Fu.name) → ∀ h ∈ p.funcs, ∀ x ∈ h.params ++ h.locals, x ∉ G := fun G hG h hh x hx hxG => (hown h hh).2.1 x hx ((hG x).1 hxG)
  have hsub : ∀ h, h ∈ l1 ∨ h = f ∨ h = g ∨ h ∈ l2 → h ∈ p.funcs := fun h hh => by
    rw [hfs]
    simp only [List.mem_append, List.mem_cons]
    rcases hh with hh | hh | hh | hh <;> simp [hh]
  obtain ⟨c1', k1', s1, g1⟩ := sim_functions l1 l1 _ ⟨p.vars ++ p.arrays.map (·.1) ++ (l1 ++ g :: f :: l2).map Fu.name, p.vars, p.arrays.map (·.1), [], ⟨#[]⟩, []⟩ c1 (FusLe.refl l1) k1 ⟨fun x h => h, fun x h => h, fun nm f h => ⟨f, h, rfl, Nat.le_refl _, Nat.le_refl _⟩⟩ (fun h hh => hgl _ hmem h (hsub h (.inl hh)))
  obtain ⟨_, _, _, rf, _, e2⟩ := function_okay.1 k2
  obtain ⟨_, _, _, rg, _, e3⟩ := function_okay.1 k3
  have hg1 : ∀ x, x ∈ c1'.globals ↔ x ∈ p.vars ++ p.arrays.map (·.1) ++ p.funcs.map Fu.name := fun x => by rw [g1]; exact hmem x
  -- the second function first
  obtain ⟨smg, smg', lg, eg, kg⟩ := sim_function (U := fun nm => nm ≠ f.name) (c' := c1') k3 (FuLe.refl g) (fun x hx => s1.vars x (by rw [e2] at hx; exact hx)) (fun x hx => s1.arrays x (by rw [e2] at hx; exact hx))
    (fun nm sm hU hl => s1.funcs nm sm (by
      rw [e2] at hl
      simp only [lookF] at hl
      rwa [if_neg hU] at hl))
    (fun nm hnm hE => by rw [hE, hu] at hnm; cases hnm) (hgl _ hg1 g (hsub g (by simp)))
  obtain ⟨smf, smf', lf, ef, kf⟩ := sim_function (U := fun _ => True) (c' := { c1' with name := g.name, own := g.params ++ g.locals, funcs := (g.name, smg') :: c1'.funcs }) k2 (FuLe.refl f) s1.vars s1.arrays
    (fun nm sm _ hl => by
      simp only [lookF]
      by_cases hE : nm = g.name
      · exfalso
        have := (look1 nm).2 (by rw [hl]; rfl)
        rcases this with h | h
        · rw [hE] at h; exact hfg.2 h
        · simp [lookF] at h
      · rw [if_neg hE]
        exact s1.funcs nm sm hl)
    (fun _ _ => trivial) (hgl _ hg1 f (hsub f (by simp)))
  have hs3 : SimC c3 { c1' with name := f.name, own := f.params ++ f.locals, funcs := (f.name, smf') :: (g.name, smg') :: c1'.funcs } := by
    rw [eg, ef]
    refine ⟨s1.vars, s1.arrays, fun nm sm hl => ?_⟩
    simp only [lookF] at hl ⊢
    by_cases hE : nm = f.name
    · have hE2 : ¬ nm = g.name := fun h => hfg.1 (hE.symm.trans h)
      rw [if_neg hE2, if_pos hE] at hl
      rw [if_pos hE]
      cases hl
      exact ⟨_, rfl, lf⟩
    · rw [if_neg hE] at hl ⊢
      by_cases hE2 : nm = g.name
      · rw [if_pos hE2] at hl ⊢
        cases hl
        exact ⟨_, rfl, lg⟩
      · rw [if_neg hE2] at hl ⊢
        exact s1.funcs nm sm hl
  obtain ⟨e', k4, s4, _⟩ := sim_functions l2 l2 c3 _ e (FusLe.refl l2) hF hs3 (fun h hh => hgl _ hg1 h (hsub h (by simp [hh])))
  have hlast : ∀ (x y : Fu), (l1 ++ x :: y :: l2).getLast? = l2.getLast? := fun x y => by
    rw [List.getLast?_append, List.getLast?_cons_cons, List.getLast?_cons]
    cases l2 with
    | nil => exact absurd rfl h2
    | cons z l => simp [List.getLast?_cons]
  have hm' : lastMain ⟨p.vars, p.arrays, l1 ++ g :: f :: l2⟩ = true := by
    unfold lastMain at hm ⊢
    rw [hfs, hlast f g] at hm
    simp only
    rw [hlast g f]
    exact hm
  have hmi : (lookF sMain e.funcs).isSome = true := by
    have : functionsC ⟨p.vars ++ p.arrays.map (·.1) ++ p.funcs.map Fu.name, p.vars, p.arrays.map (·.1), [], ⟨#[]⟩, []⟩ p.funcs = .ok e := by
      rw [hfs, functions_append]
      refine Res.bind_okay.2 ⟨c1, by rw [← hfs]; exact (by rw [hfs]; exact k1), ?_⟩
      rw [functionsC]
      refine Res.bind_okay.2 ⟨c2, k2, ?_⟩
      rw [functionsC]
      exact Res.bind_okay.2 ⟨c3, k3, hF⟩
    exact last_main_look this hm
  obtain ⟨m1, m2⟩ := main_le s4.funcs hmi hne hde
  refine ⟨fun x hx => h1 x ((hmem x).1 hx), hperm.nodup_iff.2 hnd, hA, e', ?_, hm', ?_, m1, m2⟩
  · simp only
    rw [functions_append, k1', Res.bind_ok, functionsC, kg, Res.bind_ok, functionsC, kf, Res.bind_ok]
    exact k4
  · have hs : scalarsN ⟨p.vars, p.arrays, l1 ++ g :: f :: l2⟩ = scalarsN p := by
      unfold scalarsN
      simp only
      rw [hfs]
      congr 1
      exact ((perm_swap l1 l2 f g).map _).sum_nat
    rw [hs]; exact hsc
theorem fusLe_at {l1 l2 : List Fu} {f f' : Fu} (h : FuLe f' f) : FusLe (l1 ++ f' :: l2) (l1 ++ f :: l2) := by
  induction l1 with
  | nil => exact .cons h (FusLe.refl _)
  | cons x l ih => exact .cons (FuLe.refl x) ih
/-- Statements struck at the end of a function's body. -/
theorem shorter_valid {p : Pr} {l1 l2 : List Fu} {f f' : Fu} (hp : programC p = .ok ()) (hfs : p.funcs = l1 ++ f :: l2) (h : FuLe f' f) : programC ⟨p.vars, p.arrays, l1 ++ f' :: l2⟩ = .ok () := by
  obtain ⟨h1, hnd, hA, e, hF, hm, hsc, hne, hde⟩ := program_okay.1 hp
  rw [program_okay]
  have hnames : (l1 ++ f' :: l2).map Fu.name = p.funcs.map Fu.name := by
    rw [hfs, List.map_append, List.map_append, List.map_cons, List.map_cons, h.name]
  simp only
  rw [hnames]
  have hown := functions_own hF
  have hmi := last_main_look hF hm
  obtain ⟨e', k, s, _⟩ := sim_functions p.funcs (l1 ++ f' :: l2) _ ⟨p.vars ++ p.arrays.map (·.1) ++ p.funcs.map Fu.name, p.vars, p.arrays.map (·.1), [], ⟨#[]⟩, []⟩ e (by rw [hfs]; exact fusLe_at h) hF ⟨fun x h => h, fun x h => h, fun nm f h => ⟨f, h, rfl, Nat.le_refl _, Nat.le_refl _⟩⟩ (fun g hg => (hown g hg).2.1)
  obtain ⟨m1, m2⟩ := main_le s.funcs hmi hne hde
  refine ⟨h1, hnd, hA, e', k, ?_, ?_, m1, m2⟩
  · unfold lastMain at hm ⊢
    rw [hfs] at hm
    simp only at hm ⊢
    rw [List.getLast?_append, List.getLast?_cons] at hm ⊢
    cases hl : l2.getLast? with
    | none =>
      rw [hl] at hm
      simp only [Option.getD_none, Option.some_or] at hm ⊢
      rw [h.name, h.params]
      exact hm
    | some z =>
      rw [hl] at hm
      exact hm
  · have hs : scalarsN ⟨p.vars, p.arrays, l1 ++ f' :: l2⟩ = scalarsN p := by
      unfold scalarsN
      simp only
      rw [hfs, List.map_append, List.map_append, List.map_cons, List.map_cons, h.params, h.locals]
    rw [hs]; exact hsc
/-- A new variable. -/
theorem wider_valid {p : Pr} {x : BA} (hp : programC p = .ok ()) (hx : isName x = true) (hg : x ∉ p.vars ++ p.arrays.map (·.1) ++ p.funcs.map Fu.name) (ho : ∀ f ∈ p.funcs, x ∉ f.params ++ f.locals) (hn : scalarsN p < 8000) :
    programC ⟨p.vars ++ [x], p.arrays, p.funcs⟩ = .ok () := by
  obtain ⟨h1, hnd, hA, e, hF, hm, hsc, hne, hde⟩ := program_okay.1 hp
  rw [program_okay]
  have hmem : ∀ y, y ∈ p.vars ++ [x] ++ p.arrays.map (·.1) ++ p.funcs.map Fu.name ↔ y = x ∨ y ∈ p.vars ++ p.arrays.map (·.1) ++ p.funcs.map Fu.name := fun y => by
    simp only [List.mem_append, List.mem_singleton]
    constructor
    · rintro (((h | h) | h) | h)
      · exact .inr (.inl (.inl h))
      · exact .inl h
      · exact .inr (.inl (.inr h))
      · exact .inr (.inr h)
    · rintro (h | ((h | h) | h))
      · exact .inl (.inl (.inr h))
      · exact .inl (.inl (.inl h))
      · exact .inl (.inr h)
      · exact .inr h
  have hperm : (p.vars ++ [x] ++ p.arrays.map (·.1) ++ p.funcs.map Fu.name).Perm (x :: (p.vars ++ p.arrays.map (·.1) ++ p.funcs.map Fu.name)) := by
    rw [List.append_assoc, List.append_assoc]
    refine List.Perm.trans (List.perm_append_comm_assoc ..) ?_
    rw [List.append_assoc]
    exact List.Perm.refl _
  have hown := functions_own hF
  have hmi := last_main_look hF hm
  obtain ⟨e', k, s, _⟩ := sim_functions p.funcs p.funcs _ ⟨p.vars ++ [x] ++ p.arrays.map (·.1) ++ p.funcs.map Fu.name, p.vars ++ [x], p.arrays.map (·.1), [], ⟨#[]⟩, []⟩ e (FusLe.refl _) hF ⟨fun y h => List.mem_append_left _ h, fun y h => h, fun nm f h => ⟨f, h, rfl, Nat.le_refl _, Nat.le_refl _⟩⟩
    (fun g hg' y hy hyG => by
      rcases (hmem y).1 hyG with rfl | h
      · exact ho g hg' hy
      · exact (hown g hg').2.1 y hy h)
  obtain ⟨m1, m2⟩ := main_le s.funcs hmi hne hde
  refine ⟨fun y hy => ?_, hperm.nodup_iff.2 (List.nodup_cons.2 ⟨hg, hnd⟩), hA, e', k, hm, ?_, m1, m2⟩
  · rcases (hmem y).1 hy with rfl | h
    · exact hx
    · exact h1 y h
  · unfold scalarsN at hn ⊢
    simp only [List.length_append, List.length_singleton]
    omega
end Go.Proofs.Ytgimdbflpdmlmaa.Ck
