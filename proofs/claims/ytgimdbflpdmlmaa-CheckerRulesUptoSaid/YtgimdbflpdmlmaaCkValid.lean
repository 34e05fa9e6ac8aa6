/- What the checker's yes says of a program: the names are names, and distinct; the scalars are distinct. No program in sight. -/
import Derived.Test.YtgimdbflpdmlmaaCkSz
import Derived.Test.YtgimdbflpdmlmaaCkScalars
namespace Go.Proofs.Ytgimdbflpdmlmaa.Ck
set_option maxRecDepth 100000
open Go.Proofs.Ytgimdbflpdmlmaa

theorem Res.bind_okay {α β : Type} {r : Res α} {f : α → Res β} {b : β} : r.bind f = .ok b ↔ ∃ a, r = .ok a ∧ f a = .ok b := by
  cases r with
  | bad v => exact ⟨fun h => (by cases h), fun ⟨a, h, _⟩ => (by cases h)⟩
  | ok a => exact ⟨fun h => ⟨a, rfl, h⟩, fun ⟨a', h, h'⟩ => (by cases h; exact h')⟩
theorem req_okay {b : Bool} {n : BA} {e : Int} {u : Unit} : req b n e = .ok u ↔ b = true := by
  unfold req
  cases b
  · exact ⟨fun h => by simp at h, fun h => by cases h⟩
  · exact ⟨fun _ => rfl, fun _ => rfl⟩
/-- No violated rule has the number of no error. -/
def NZ {α : Type} (r : Res α) : Prop := ∀ v, r = .bad v → v.2 ≠ 0
theorem NZ.ok {α : Type} (a : α) : NZ (.ok a : Res α) := fun v h => by cases h
theorem NZ.bad {α : Type} {n : BA} {e : Int} (h : e ≠ 0) : NZ (.bad (n, e) : Res α) := fun v hv => by cases hv; exact h
theorem NZ.req {b : Bool} {n : BA} {e : Int} (h : e ≠ 0) : NZ (req b n e) := by
  unfold Ck.req
  split
  · exact NZ.ok _
  · exact NZ.bad h
theorem NZ.bind {α β : Type} {r : Res α} {f : α → Res β} (h : NZ r) (hf : ∀ a, NZ (f a)) : NZ (r.bind f) := by
  cases r with
  | bad v => exact fun v' h' => by cases h'; exact h v rfl
  | ok a => exact hf a
theorem nz_call (c : Cx) (name : BA) (ns : List Nat) (d : Nat) : NZ (callC c name ns d) := by
  unfold callC
  split
  · split
    · exact NZ.ok _
    · exact NZ.bad (by decide)
  · split
    · split
      · exact NZ.ok _
      · exact NZ.bad (by decide)
    · split
      · split
        · exact NZ.bad (by decide)
        · exact NZ.bad (by decide)
      · split
        · exact NZ.ok _
        · exact NZ.bad (by decide)
theorem nz_scalar (c : Cx) (name : BA) : NZ (scalarC c name) := by
  unfold scalarC
  split
  · exact NZ.ok _
  · split
    · exact NZ.bad (by decide)
    · exact NZ.bad (by decide)
theorem nz_array (c : Cx) (name : BA) : NZ (arrayC c name) := by
  unfold arrayC
  split
  · exact NZ.ok _
  · split
    · exact NZ.bad (by decide)
    · exact NZ.bad (by decide)
theorem nz_op (c : Cx) (op name : BA) (ns : List Nat) (d : Nat) : NZ (opC c op name ns d) := by
  unfold opC
  split
  · exact NZ.ok _
  split
  · exact (nz_scalar _ _).bind fun _ => NZ.ok _
  split
  · exact (nz_array _ _).bind fun _ => NZ.ok _
  split
  · exact nz_call _ _ _ _
  split
  · exact NZ.ok _
  split <;> exact NZ.ok _
mutual
theorem nz_expr (c : Cx) : ∀ (e : Ex) (d : Nat), NZ (exprC c e d)
  | .mk op num name args, d => by
    rw [exprC]
    exact (NZ.req (by decide)).bind fun _ => (nz_exprs c args d).bind fun _ => nz_op _ _ _ _ _
theorem nz_exprs (c : Cx) : ∀ (l : List Ex) (d : Nat), NZ (exprsC c l d)
  | [], d => by rw [exprsC]; exact NZ.ok _
  | e :: l, d => by
    rw [exprsC]
    exact (nz_expr c e d).bind fun _ => (nz_exprs c l _).bind fun _ => NZ.ok _
end
theorem nz_first (c : Cx) (l : List Ex) (d : Nat) : NZ (first c l d) := by
  unfold first
  split
  · exact NZ.ok _
  · exact nz_expr _ _ _
mutual
theorem nz_st (c : Cx) : ∀ (s : St) (d : Nat), NZ (stC c s d)
  | .mk k name index value thn els, d => by
    rw [stC]
    refine (NZ.req (by decide)).bind fun _ => ?_
    split
    · exact NZ.ok _
    refine (nz_first _ _ _).bind fun _ => ?_
    split
    · exact (nz_scalar _ _).bind fun _ => NZ.ok _
    split
    · exact (nz_first _ _ _).bind fun _ => (nz_array _ _).bind fun _ => NZ.ok _
    split
    · exact NZ.ok _
    split
    · exact (nz_sts c thn _).bind fun _ => (nz_sts c els _).bind fun _ => NZ.ok _
    · exact NZ.ok _
theorem nz_sts (c : Cx) : ∀ (l : List St) (d : Nat), NZ (stsC c l d)
  | [], d => by rw [stsC]; exact NZ.ok _
  | s :: l, d => by
    rw [stsC]
    exact (nz_st c s d).bind fun _ => (nz_sts c l _).bind fun _ => NZ.ok _
end
theorem nz_globals : ∀ (l known : List BA), NZ (globalsC known l)
  | [], known => NZ.ok _
  | x :: l, known => ((NZ.req (by decide)).bind fun _ => (NZ.req (by decide)).bind fun _ => NZ.ok _).bind fun k => nz_globals l k
theorem nz_own (g : List BA) : ∀ (l own : List BA), NZ (ownC g own l)
  | [], own => NZ.ok _
  | x :: l, own => (NZ.req (by decide)).bind fun _ => (NZ.req (by decide)).bind fun _ => nz_own g l _
theorem nz_arrays : ∀ (l : List (BA × Int)) (t : Int), NZ (arraysC t l)
  | [], t => NZ.ok _
  | (n, s) :: l, t => (NZ.req (by decide)).bind fun _ => (NZ.req (by decide)).bind fun _ => nz_arrays l _
theorem nz_functions : ∀ (l : List Fu) (c : Cx), NZ (functionsC c l)
  | [], _ => NZ.ok _
  | _ :: l, _ => ((nz_own _ _ _).bind fun _ => (nz_sts _ _ _).bind fun _ => NZ.ok _).bind fun c' => nz_functions l c'
theorem nz_program (p : Pr) : NZ (programC p) :=
  (nz_globals _ _).bind fun _ => (nz_globals _ _).bind fun _ => (nz_globals _ _).bind fun _ => (nz_arrays _ _).bind fun _ => (nz_functions _ _).bind fun _ => (NZ.req (by decide)).bind fun _ => NZ.req (by decide)
theorem check_zero {p : Pr} : (check p).2 = 0 ↔ programC p = .ok () := by
  have h := nz_program p
  unfold check
  cases hp : programC p with
  | bad v => exact ⟨fun h0 => absurd h0 (h v hp), fun h0 => by cases h0⟩
  | ok u => exact ⟨fun _ => rfl, fun _ => rfl⟩
theorem check_of_ok {p : Pr} (h : programC p = .ok ()) : check p = (⟨#[]⟩, 0) := by unfold check; rw [h]

theorem globals_okay : ∀ {l known k : List BA}, globalsC known l = .ok k ↔ k = known ++ l ∧ (∀ x ∈ l, isName x = true) ∧ (∀ x ∈ l, x ∉ known) ∧ l.Nodup
  | [], known, k => by
    rw [globalsC]
    constructor
    · intro h; cases h; simp
    · rintro ⟨rfl, _⟩; simp
  | x :: l, known, k => by
    rw [globalsC, globalC]
    simp only [Res.bind_okay, req_okay, globals_okay (l := l)]
    constructor
    · rintro ⟨k', ⟨_, h1, _, h2, h3⟩, rfl, h4, h5, h6⟩
      cases h3
      have h2' : x ∉ known := by simpa using h2
      refine ⟨by simp, fun y hy => ?_, fun y hy => ?_, List.nodup_cons.2 ⟨fun hx => ?_, h6⟩⟩
      · rcases List.mem_cons.1 hy with rfl | hy
        · exact h1
        · exact h4 y hy
      · rcases List.mem_cons.1 hy with rfl | hy
        · exact h2'
        · exact fun hk => h5 y hy (List.mem_append_left _ hk)
      · exact h5 x hx (by simp)
    · rintro ⟨rfl, h1, h2, h3⟩
      have h3' := List.nodup_cons.1 h3
      refine ⟨known ++ [x], ⟨(), h1 x (by simp), (), by simpa using h2 x (by simp), rfl⟩, by simp, fun y hy => h1 y (by simp [hy]), fun y hy hk => ?_, h3'.2⟩
      rcases List.mem_append.1 hk with hk | hk
      · exact h2 y (by simp [hy]) hk
      · obtain rfl : y = x := by simpa using hk
        exact h3'.1 hy
theorem own_okay {g : List BA} : ∀ {l own k : List BA}, ownC g own l = .ok k ↔ k = own ++ l ∧ (∀ x ∈ l, isName x = true) ∧ (∀ x ∈ l, x ∉ g) ∧ (∀ x ∈ l, x ∉ own) ∧ l.Nodup
  | [], own, k => by
    rw [ownC]
    constructor
    · intro h; cases h; simp
    · rintro ⟨rfl, _⟩; simp
  | x :: l, own, k => by
    rw [ownC]
    simp only [Res.bind_okay, req_okay, own_okay (l := l)]
    constructor
    · rintro ⟨_, h1, _, h2, rfl, h4, h5, h6, h7⟩
      have h2' : x ∉ g ∧ x ∉ own := by simpa using h2
      refine ⟨by simp, fun y hy => ?_, fun y hy => ?_, fun y hy => ?_, List.nodup_cons.2 ⟨fun hx => ?_, h7⟩⟩
      · rcases List.mem_cons.1 hy with rfl | hy
        · exact h1
        · exact h4 y hy
      · rcases List.mem_cons.1 hy with rfl | hy
        · exact h2'.1
        · exact h5 y hy
      · rcases List.mem_cons.1 hy with rfl | hy
        · exact h2'.2
        · exact fun hk => h6 y hy (List.mem_append_left _ hk)
      · exact h6 x hx (by simp)
    · rintro ⟨rfl, h1, h2, h3, h4⟩
      have h4' := List.nodup_cons.1 h4
      refine ⟨(), h1 x (by simp), (), by have := h2 x (by simp); have := h3 x (by simp); simp [*], by simp, fun y hy => h1 y (by simp [hy]), fun y hy => h2 y (by simp [hy]), fun y hy hk => ?_, h4'.2⟩
      rcases List.mem_append.1 hk with hk | hk
      · exact h3 y (by simp [hy]) hk
      · obtain rfl : y = x := by simpa using hk
        exact h4'.1 hy
/-- What the checker has found behind the names. -/
theorem program_okay {p : Pr} : programC p = .ok () ↔ (∀ x ∈ p.vars ++ p.arrays.map (·.1) ++ p.funcs.map Fu.name, isName x = true) ∧ (p.vars ++ p.arrays.map (·.1) ++ p.funcs.map Fu.name).Nodup ∧ (∃ t, arraysC 0 p.arrays = .ok t) ∧
    ∃ c, functionsC ⟨p.vars ++ p.arrays.map (·.1) ++ p.funcs.map Fu.name, p.vars, p.arrays.map (·.1), [], ⟨#[]⟩, []⟩ p.funcs = .ok c ∧ lastMain p = true ∧
      scalarsN p ≤ 8000 ∧ ((lookF sMain c.funcs).map Sm.need).getD 0 ≤ 200 ∧ ((lookF sMain c.funcs).map Sm.depth).getD 0 ≤ 60 := by
  unfold programC
  simp only [Res.bind_okay, req_okay, globals_okay, Bool.and_eq_true, decide_eq_true_eq]
  constructor
  · rintro ⟨g1, ⟨rfl, a1, a2, a3⟩, g2, ⟨rfl, b1, b2, b3⟩, g3, ⟨rfl, d1, d2, d3⟩, t, ht, c, hc, _, hm, ⟨h1, h2⟩, h3⟩
    rw [List.nil_append] at b2 d2 hc
    refine ⟨fun x hx => ?_, ?_, ⟨t, ht⟩, c, hc, hm, h1, h2, h3⟩
    · rcases List.mem_append.1 hx with hx | hx
      · rcases List.mem_append.1 hx with hx | hx
        · exact a1 x hx
        · exact b1 x hx
      · exact d1 x hx
    · refine List.nodup_append.2 ⟨List.nodup_append.2 ⟨a3, b3, fun x hx y hy e => ?_⟩, d3, fun x hx y hy e => ?_⟩
      · subst e; exact b2 x hy hx
      · subst e; exact d2 x hy hx
  · rintro ⟨h1, h2, ⟨t, ht⟩, c, hc, hm, h3, h4, h5⟩
    obtain ⟨n1, n2, n3⟩ := List.nodup_append.1 h2
    obtain ⟨m1, m2, m3⟩ := List.nodup_append.1 n1
    refine ⟨p.vars, ⟨by simp, fun x hx => h1 x (by simp [hx]), fun x _ => by simp, m1⟩, p.vars ++ p.arrays.map (·.1), ⟨rfl, fun x hx => h1 x (List.mem_append_left _ (List.mem_append_right _ hx)), fun x hx hv => m3 x hv x hx rfl, m2⟩, _, ⟨rfl, fun x hx => h1 x (List.mem_append_right _ hx), fun x hx hv => n3 x hv x hx rfl, n2⟩, t, ht, c, hc, (), hm, ⟨h3, h4⟩, h5⟩
/-- A function's check leaves the names of the whole program as they were. -/
theorem function_okay {c c' : Cx} {f : Fu} : functionC c f = .ok c' ↔ (∀ x ∈ f.params ++ f.locals, isName x = true) ∧ (∀ x ∈ f.params ++ f.locals, x ∉ c.globals) ∧ (f.params ++ f.locals).Nodup ∧
    ∃ r, stsC { c with name := f.name, own := f.params ++ f.locals } f.body 1 = .ok r ∧ c' = { c with name := f.name, own := f.params ++ f.locals, funcs := (f.name, ⟨f.params.length, max 2 (max (f.params.length + 1) r.1), r.2⟩) :: c.funcs } := by
  unfold functionC
  simp only [Res.bind_okay, own_okay, List.nil_append]
  constructor
  · rintro ⟨own, ⟨rfl, h1, h2, _, h4⟩, r, h5, h6⟩
    cases h6
    exact ⟨h1, h2, h4, r, h5, rfl⟩
  · rintro ⟨h1, h2, h4, r, h5, rfl⟩
    exact ⟨_, ⟨rfl, h1, h2, fun x _ => by simp, h4⟩, r, h5, rfl⟩
theorem functions_own : ∀ {l : List Fu} {c c' : Cx}, functionsC c l = .ok c' → ∀ f ∈ l, (∀ x ∈ f.params ++ f.locals, isName x = true) ∧ (∀ x ∈ f.params ++ f.locals, x ∉ c.globals) ∧ (f.params ++ f.locals).Nodup
  | [], c, c', _, f, hf => by cases hf
  | g :: l, c, c', h, f, hf => by
    rw [functionsC] at h
    obtain ⟨c1, h1, h2⟩ := Res.bind_okay.1 h
    obtain ⟨a1, a2, a3, r, a4, rfl⟩ := function_okay.1 h1
    rcases List.mem_cons.1 hf with rfl | hf
    · exact ⟨a1, a2, a3⟩
    · exact functions_own h2 f hf

/-- No name holds a full stop. -/
theorem name_dot {s : BA} (h : isName s = true) : (46 : UInt8) ∉ s.data.toList := by
  unfold isName at h
  simp only [Bool.and_eq_true] at h
  obtain ⟨_, hw⟩ := h
  unfold wordly at hw
  split at hw
  · simp_all
  · rename_i b r hb
    rw [hb]
    simp only [Bool.and_eq_true, List.all_eq_true] at hw
    rintro hm
    rcases List.mem_cons.1 hm with rfl | hm
    · exact absurd hw.1 (by decide)
    · exact absurd (hw.2 _ hm) (by decide)
theorem dotB_data (f s : BA) : (dotB f s).data.toList = f.data.toList ++ 46 :: s.data.toList := by
  unfold dotB
  simp [ByteArray.data_append]
theorem ba_ext {a b : BA} (h : a.data.toList = b.data.toList) : a = b := by
  obtain ⟨⟨a⟩⟩ := a; obtain ⟨⟨b⟩⟩ := b
  simp at h
  subst h; rfl
theorem split_dot {a b c d : List UInt8} (ha : (46 : UInt8) ∉ a) (hc : (46 : UInt8) ∉ c) (h : a ++ 46 :: b = c ++ 46 :: d) : a = c ∧ b = d := by
  induction a generalizing c with
  | nil =>
    cases c with
    | nil => simp at h; exact ⟨rfl, h⟩
    | cons y c => simp at h; exact absurd (by simp [h.1]) hc
  | cons x a ih =>
    cases c with
    | nil => simp at h; exact absurd (by simp [h.1]) ha
    | cons y c =>
      simp only [List.cons_append, List.cons.injEq] at h
      obtain ⟨h1, h2⟩ := ih (fun h' => ha (by simp [h'])) (fun h' => hc (by simp [h'])) h.2
      exact ⟨by rw [h.1, h1], h2⟩
theorem dotB_inj {f s g t : BA} (hf : isName f = true) (hg : isName g = true) (h : dotB f s = dotB g t) : f = g ∧ s = t := by
  have : (dotB f s).data.toList = (dotB g t).data.toList := by rw [h]
  rw [dotB_data, dotB_data] at this
  obtain ⟨h1, h2⟩ := split_dot (name_dot hf) (name_dot hg) this
  exact ⟨ba_ext h1, ba_ext h2⟩
theorem fu_scalars_nodup {f : Fu} (hf : isName f.name = true) (h : (f.params ++ f.locals).Nodup) : (fuScalars f).Nodup := by
  unfold fuScalars
  exact List.pairwise_map.2 (h.imp fun hne e => hne (dotB_inj hf hf e).2)
theorem all_scalars_nodup : ∀ {l : List Fu}, (∀ f ∈ l, isName f.name = true) → (l.map Fu.name).Nodup → (∀ f ∈ l, (f.params ++ f.locals).Nodup) → (l.flatMap fuScalars).Nodup
  | [], _, _, _ => by simp
  | f :: l, h1, h2, h3 => by
    rw [List.flatMap_cons]
    rw [List.map_cons] at h2
    obtain ⟨h2a, h2b⟩ := List.nodup_cons.1 h2
    refine List.nodup_append.2 ⟨fu_scalars_nodup (h1 f (by simp)) (h3 f (by simp)), all_scalars_nodup (fun g hg => h1 g (by simp [hg])) h2b (fun g hg => h3 g (by simp [hg])), fun x hx y hy e => ?_⟩
    subst e
    obtain ⟨g, hg, hy⟩ := List.mem_flatMap.1 hy
    unfold fuScalars at hx hy
    obtain ⟨s, _, rfl⟩ := List.mem_map.1 hx
    obtain ⟨t, _, ht⟩ := List.mem_map.1 hy
    have := (dotB_inj (h1 g (by simp [hg])) (h1 f (by simp)) ht).1
    exact h2a (List.mem_map.2 ⟨g, hg, this⟩)
/-- The scalars of a valid program are distinct. -/
theorem scalars_distinct {p : Pr} (h : (check p).2 = 0) : (scalarsL p).Nodup := by
  obtain ⟨h1, h2, _, c, h3, _⟩ := program_okay.1 (check_zero.1 h)
  obtain ⟨n1, n2, n3⟩ := List.nodup_append.1 h2
  obtain ⟨m1, m2, m3⟩ := List.nodup_append.1 n1
  have hn : ∀ f ∈ p.funcs, isName f.name = true := fun f hf => h1 _ (List.mem_append_right _ (List.mem_map.2 ⟨f, hf, rfl⟩))
  unfold scalarsL
  refine List.nodup_append.2 ⟨m1, all_scalars_nodup hn n2 (fun f hf => (functions_own h3 f hf).2.2), fun x hx y hy e => ?_⟩
  subst e
  obtain ⟨g, hg, hy⟩ := List.mem_flatMap.1 hy
  unfold fuScalars at hy
  obtain ⟨t, _, rfl⟩ := List.mem_map.1 hy
  refine name_dot (h1 (dotB g.name t) (List.mem_append_left _ (List.mem_append_left _ hx))) ?_
  rw [dotB_data]; simp
theorem fits_of_size {p : Pr} (h : sizeP p ≤ 400) : Fits p := by
  unfold sizeP at h
  refine ⟨fun x hx => ?_, ?_⟩
  · have : x.size / 8 ≤ 400 := by
      rcases hx with hx | hx | ⟨f, hf, hx⟩
      · have := eighths_mem hx; omega
      · have := eighths_mem hx; omega
      · have h1 := fsum_mem (g := fuSz) hf
        rw [show fuSz f = 1 + f.name.size / 8 + f.params.length + f.locals.length + szS f.body + eighths (f.params ++ f.locals) from rfl] at h1
        rcases hx with rfl | hx | hx
        · omega
        · have := eighths_mem (l := f.params ++ f.locals) (List.mem_append_left _ hx); omega
        · have := eighths_mem (l := f.params ++ f.locals) (List.mem_append_right _ hx); omega
    omega
  · have : (p.funcs.map fun f => 4 + f.params.length + f.locals.length + 5 * nodesS f.body).sum ≤ 5 * (p.funcs.map fuSz).sum := by
      generalize p.funcs = l
      induction l with
      | nil => simp
      | cons f l ih =>
        simp only [List.map_cons, List.sum_cons]
        have := nodes_szS f.body
        have : fuSz f = 1 + f.name.size / 8 + f.params.length + f.locals.length + szS f.body + eighths (f.params ++ f.locals) := rfl
        omega
    omega
end Go.Proofs.Ytgimdbflpdmlmaa.Ck
