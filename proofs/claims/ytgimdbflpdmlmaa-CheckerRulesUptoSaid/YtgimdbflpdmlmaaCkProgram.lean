/- The checker's program. Condition: bounds. -/
import Derived.Test.YtgimdbflpdmlmaaCkFunc
import Derived.Test.YtgimdbflpdmlmaaCkScalars
namespace Go.Proofs.Ytgimdbflpdmlmaa
set_option maxRecDepth 100000
open Go.RowKit Go.Shelf Go.Proofs.Ytgimdbflpdmlmaa.Ck

theorem globalsC_append : ∀ (l m g : List BA), globalsC g (l ++ m) = (globalsC g l).bind fun o => globalsC o m
  | [], m, g => rfl
  | x :: l, m, g => by
    rw [List.cons_append, globalsC, globalsC]
    cases globalC g x with
    | bad v => rfl
    | ok u => simp only [Res.bind_ok]; exact globalsC_append l m u
theorem globalsC_step {g0 l g : List BA} {x : BA} {k : Nat} (h : globalsC g0 (l.take k) = .ok g) (hx : l[k]? = some x) :
    globalsC g0 (l.take (k + 1)) = globalC g x ∧ ∀ v, globalC g x = .bad v → globalsC g0 l = .bad v := by
  have h1 : globalsC g0 (l.take (k + 1)) = globalC g x := by
    rw [List.take_add_one, hx]
    show globalsC g0 (l.take k ++ [x]) = _
    rw [globalsC_append, h]
    show (globalC g x).bind (fun k => globalsC k []) = _
    cases globalC g x <;> rfl
  refine ⟨h1, fun v hv => ?_⟩
  rw [← List.take_append_drop (k + 1) l, globalsC_append, h1, hv]
  rfl
theorem arraysC_append : ∀ (l m : List (BA × Int)) (t : Int), arraysC t (l ++ m) = (arraysC t l).bind fun o => arraysC o m
  | [], m, g => rfl
  | (n, s) :: l, m, t => by
    rw [List.cons_append, arraysC, arraysC]
    cases req (decide (0 < s)) n 2 with
    | bad v => rfl
    | ok u =>
      simp only [Res.bind_ok]
      cases req (decide (s ≤ 150000 - t)) n 6 with
      | bad v => rfl
      | ok u => simp only [Res.bind_ok]; exact arraysC_append l m _
theorem arraysC_step {l : List (BA × Int)} {t s : Int} {x : BA} {k : Nat} (h : arraysC 0 (l.take k) = .ok t) (hx : l[k]? = some (x, s)) :
    arraysC 0 (l.take (k + 1)) = ((req (decide (0 < s)) x 2).bind fun _ => (req (decide (s ≤ 150000 - t)) x 6).bind fun _ => .ok (t + s)) ∧
    ∀ v, ((req (decide (0 < s)) x 2).bind fun _ => (req (decide (s ≤ 150000 - t)) x 6).bind fun _ => Res.ok (t + s)) = .bad v → arraysC 0 l = .bad v := by
  have h1 : arraysC 0 (l.take (k + 1)) = ((req (decide (0 < s)) x 2).bind fun _ => (req (decide (s ≤ 150000 - t)) x 6).bind fun _ => .ok (t + s)) := by
    rw [List.take_add_one, hx]
    show arraysC 0 (l.take k ++ [(x, s)]) = _
    rw [arraysC_append, h]
    rfl
  refine ⟨h1, fun v hv => ?_⟩
  rw [← List.take_append_drop (k + 1) l, arraysC_append, h1, hv]
  rfl
theorem functionsC_append : ∀ (l m : List Fu) (c : Cx), functionsC c (l ++ m) = (functionsC c l).bind fun o => functionsC o m
  | [], m, g => rfl
  | x :: l, m, g => by
    rw [List.cons_append, functionsC, functionsC]
    cases functionC g x with
    | bad v => rfl
    | ok u => simp only [Res.bind_ok]; exact functionsC_append l m u
theorem functionsC_step {c0 c : Cx} {l : List Fu} {x : Fu} {k : Nat} (h : functionsC c0 (l.take k) = .ok c) (hx : l[k]? = some x) :
    functionsC c0 (l.take (k + 1)) = functionC c x ∧ ∀ v, functionC c x = .bad v → functionsC c0 l = .bad v := by
  have h1 : functionsC c0 (l.take (k + 1)) = functionC c x := by
    rw [List.take_add_one, hx]
    show functionsC c0 (l.take k ++ [x]) = _
    rw [functionsC_append, h]
    show (functionC c x).bind (fun k => functionsC k []) = _
    cases functionC c x <;> rfl
  refine ⟨h1, fun v hv => ?_⟩
  rw [← List.take_append_drop (k + 1) l, functionsC_append, h1, hv]
  rfl
/-- How much a function weighs. -/
def wgt (f : Fu) : Nat := 4 + f.params.length + f.locals.length + 5 * nodesS f.body
theorem functionC_small {c c' : Cx} {f : Fu} {K : Nat} (hs : Small c K) (hK : 2 ≤ K) (h : functionC c f = .ok c') : Small c' (K + wgt f) := by
  unfold functionC at h
  cases ho : ownC c.globals [] (f.params ++ f.locals) with
  | bad v => rw [ho] at h; cases h
  | ok own =>
    rw [ho, Res.bind_ok] at h
    cases hx : stsC { c with name := f.name, own := own } f.body 1 with
    | bad v => rw [hx] at h; cases h
    | ok r =>
      obtain ⟨n, d⟩ := r
      rw [hx, Res.bind_ok] at h
      cases h
      have hs' : Small { c with name := f.name, own := own } K := ⟨hs.funcs⟩
      have hle := stsC_le hs' f.body 1 n d hx
      refine ⟨fun x g hg => ?_⟩
      simp only [lookF] at hg
      unfold wgt
      split at hg
      · cases hg
        simp only
        omega
      · have := hs.funcs x g hg
        omega
theorem ArsAt.get {w : World} {v : Value} {l : List (ByteArray × Int)} (h : ArsAt w v l) {i : Nat} {x : ByteArray} {s : Int} (hi : l[i]? = some (x, s)) : ∃ b o cap, v = .slice (some ⟨b, o, none⟩) l.length cap ∧ b < w.heap.size ∧
    w.cell? ⟨b, o + i * 2, none⟩ = some (.string x) ∧ w.cell? ⟨b, o + i * 2 + 1, none⟩ = some (.int .i64 s) := by
  have hlt := (List.getElem?_eq_some_iff.1 hi).1
  obtain ⟨a, cap, rfl, h1, h2, h3⟩ := h
  rcases h3 with rfl | ⟨b, o, rfl, hb, hc⟩
  · simp at hlt
  · exact ⟨b, o, cap, rfl, hb, (hc i _ hi).1, (hc i _ hi).2⟩
theorem bind_is {α β : Type} {q : Res β} {r : Res α} {a : α} {f : α → Res β} (h : q = r.bind f) (hr : r = .ok a) : q = f a := by subst hr; exact h
theorem bind_no {α β : Type} {q : Res β} {r : Res α} {v : Viol} {f : α → Res β} (h : q = r.bind f) (hr : r = .bad v) : q = .bad v := by subst hr; exact h
theorem PrSt.ren {w0 wk w : World} {B G V A F : Nat} {c c' : Cx} (h : PrSt w0 wk w B G V A F c) (h1 : c'.globals = c.globals) (h2 : c'.vars = c.vars) (h3 : c'.arrays = c.arrays) (h4 : c'.funcs = c.funcs) : PrSt w0 wk w B G V A F c' :=
  ⟨h.low, h.hB, h.hG, h.hV, h.hA, h.hF, h.box, by rw [h1]; exact h.g, by rw [h2]; exact h.v, by rw [h3]; exact h.a, by rw [h4]; exact h.f, h.dis⟩
theorem wsum_take (l : List Fu) : ∀ k, ((l.take k).map wgt).sum ≤ (l.map wgt).sum := by
  induction l with
  | nil => simp
  | cons f l ih =>
    intro k
    cases k with
    | zero => simp
    | succ k => have := ih k; simp only [List.take_succ_cons, List.map_cons, List.sum_cons]; omega
theorem wsum_step {l : List Fu} {f : Fu} {k : Nat} (h : l[k]? = some f) : ((l.take (k + 1)).map wgt).sum = ((l.take k).map wgt).sum + wgt f := by
  rw [List.take_add_one, h, Option.toList_some, List.map_append, List.sum_append]; simp
theorem lastMain_at {p : Pr} {m : Nat} {f : Fu} (hm : p.funcs.length = m + 1) (hf : p.funcs[m]? = some f) : lastMain p = (decide (f.name = sMain) && decide (f.params.length = 0)) := by
  unfold lastMain
  rw [List.getLast?_eq_getElem?, hm, Nat.add_sub_cancel, hf]
theorem sm_value (o : Option Sm) : ∃ pa : Int, (o.map smA).getD (.agg #[.int .i64 0, .int .i64 0, .int .i64 0]) = .agg #[.int .i64 pa, .int .i64 ((o.map Sm.need).getD 0 : Nat), .int .i64 ((o.map Sm.depth).getD 0 : Nat)] := by
  cases o with
  | none => exact ⟨0, rfl⟩
  | some s => exact ⟨_, rfl⟩
theorem scalarsL_length (p : Pr) : (scalarsL p).length = scalarsN p := by
  unfold scalarsL scalarsN
  rw [List.length_append, List.length_flatMap]
  have : (p.funcs.map fun f => (fuScalars f).length) = p.funcs.map fun f => f.params.length + f.locals.length := List.map_congr_left fun f _ => by simp [fuScalars]
  rw [this]
/-- What program leaves. -/
def PrgEnd (w0 : World) (r : Res Unit) (e : Ending) (w' : World) : Prop :=
  match r with | .bad v => Bad v e ∧ Below w0.heap.size w0 w' | .ok _ => (∃ v, e = .returned v) ∧ Below w0.heap.size w0 w'
theorem PrgEnd.bad {w0 w' : World} {r : Res Unit} {v : Viol} (hr : r = .bad v) (h : Below w0.heap.size w0 w') : PrgEnd w0 r (.panicked [{ v := violV v, recovered := false }]) w' := by subst hr; exact ⟨rfl, h⟩
theorem PrgEnd.ok {w0 w' : World} {r : Res Unit} {v : Value} (hr : r = .ok ()) (h : Below w0.heap.size w0 w') : PrgEnd w0 r (.returned v) w' := by subst hr; exact ⟨⟨v, rfl⟩, h⟩
theorem SumL.look1 {w : World} {M : Nat} {l : List (ByteArray × Sm)} (h : SumL w M l) (x : ByteArray) :
    (Instr.lookup 74 (.map (some M)) (.string x) false).run Try.prog w = .ok (((lookF x l).map smA).getD (.agg #[.int .i64 0, .int .i64 0, .int .i64 0])) w := by
  obtain ⟨m, h1, h2⟩ := h
  have := MapIs.look h1 Try.underlying74 (z := .agg #[.int .i64 0, .int .i64 0, .int .i64 0]) (fun w => by kernel_rfl) x false
  rw [h2] at this
  refine Eq.trans this ?_
  rfl

set_option maxHeartbeats 16000000 in
theorem program_any {w0 w : World} {B G V A F : Nat} {nm : ByteArray} (h : PrSt w0 w w B G V A F ⟨[], [], [], [], nm, []⟩) {vs rs fs : Value} {p : Pr} (hp : PrAt w0 vs rs fs p) (hfit : Fits p) :
    Calls Try.prog 30 #[.pointer (some ⟨B, 0, none⟩), .agg #[vs, rs, fs]] w fun e w' => PrgEnd w0 (programC p) e w' := by
  obtain ⟨h1, h2, h3⟩ := hp
  obtain ⟨a1, c1, rfl, k1, k2, _⟩ := id h1
  obtain ⟨a2, c2, rfl, k3, k4⟩ := h2.len
  obtain ⟨a3, c3, rfl, k5, k6⟩ := h3.len
  unfold maxLen at k2 k4 k6
  have H1 := Keep.mk h1
  have H2 := Keep.mk h2
  have H3 := Keep.mk h3
  have HF := Keep.mk hfit
  have HT := hfit.total
  have H := Keep.mk h
  have HQ : Keep (programC p = (globalsC [] p.vars).bind fun g1 => (globalsC g1 (p.arrays.map (·.1))).bind fun g2 => (globalsC g2 (p.funcs.map Fu.name)).bind fun g3 => (arraysC 0 p.arrays).bind fun _ =>
    (functionsC ⟨g3, p.vars, p.arrays.map (·.1), [], ⟨#[]⟩, []⟩ p.funcs).bind fun c => (req (lastMain p) sMain 9).bind fun _ =>
      req (decide (scalarsN p ≤ 8000) && decide (((lookF sMain c.funcs).map Sm.need).getD 0 ≤ 200) && decide (((lookF sMain c.funcs).map Sm.depth).getD 0 ≤ 60)) sMain 6) := ⟨rfl⟩
  clear h h1 h2 h3 hfit
  generalize programC p = q at *
  go_enter Try.func30, Try.ntmps30
  go_upto_region 1 with (fail)
  obtain ⟨Y, hY⟩ : ∃ Y, Y = w.heap.size := ⟨_, rfl⟩
  have hb1 : Below w.heap.size w (w.alloc (.cells #[.slice a1 p.vars.length c1, .slice a2 p.arrays.length c2, .slice a3 p.funcs.length c3] 26)) := (Below.refl _ _).alloc (Nat.le_refl _) _
  have hX1 : (w.alloc (.cells #[.slice a1 p.vars.length c1, .slice a2 p.arrays.length c2, .slice a3 p.funcs.length c3] 26)).heap[w.heap.size]? = some (.cells #[.slice a1 p.vars.length c1, .slice a2 p.arrays.length c2, .slice a3 p.funcs.length c3] 26 (0, 0)) := heap_alloc_new w _
  have hP1 := H.out.below hb1
  have hP1' : PrSt w0 (w.alloc (.cells #[.slice a1 p.vars.length c1, .slice a2 p.arrays.length c2, .slice a3 p.funcs.length c3] 26)) (w.alloc (.cells #[.slice a1 p.vars.length c1, .slice a2 p.arrays.length c2, .slice a3 p.funcs.length c3] 26)) B G V A F ⟨[], [], [], [], nm, []⟩ := { hP1 with low := Lw.refl hP1.low.1 }
  have HP1 := Keep.mk hP1'
  have hYne : (Y ≠ B ∧ Y ≠ G ∧ Y ≠ V ∧ Y ≠ A ∧ Y ≠ F) ∧ w0.heap.size ≤ Y := by
    have := H.out.lt
    have := H.out.g.lt
    have := H.out.v.lt
    have := H.out.a.lt
    have := H.out.f.lt
    have := H.out.low.1.size
    omega
  rw [← hY] at hX1 ⊢
  generalize hwk : (w.alloc (.cells #[.slice a1 p.vars.length c1, .slice a2 p.arrays.length c2, .slice a3 p.funcs.length c3] 26)) = wk at *
  have HX : Keep (∀ w', Lw w0 wk w' B G V A F → w'.heap[Y]? = some (.cells #[.slice a1 p.vars.length c1, .slice a2 p.arrays.length c2, .slice a3 p.funcs.length c3] 26 (0, 0)) ∧ Y < w'.heap.size) := ⟨fun w' hl => by
    have := (hl.2.block Y (Array.getElem?_eq_some_iff.1 hX1).1 hYne.1.1 hYne.1.2.1 hYne.1.2.2.1 hYne.1.2.2.2.1 hYne.1.2.2.2.2).trans hX1
    exact ⟨this, (Array.getElem?_eq_some_iff.1 this).1⟩⟩
  clear hX1 hb1 hP1 hP1' hwk H hYne hY
  have x0 : wk.cell? ⟨Y, 0, none⟩ = some (.slice a1 p.vars.length c1) := by simp [World.cell?, (HX.out wk HP1.out.low).1]
  have xl := (HX.out wk HP1.out.low).2
  go_wp2_with fail
  clear x0 xl
  go_loopw [20] (fun i wr => ∃ (k : Nat) (g : List BA), k ≤ p.vars.length ∧ i = .int .i64 k ∧ Keep (globalsC [] (p.vars.take k) = .ok g) ∧ Keep (PrSt w0 wk wr B G V A F ⟨g, p.vars.take k, [], [], nm, []⟩)) (fun i _ => p.vars.length - (intOf i).toNat)
  case atStart => exact ⟨0, [], Nat.zero_le _, rfl, ⟨rfl⟩, HP1⟩
  case round =>
    obtain ⟨k, g, hk, rfl, HG, HPr⟩ := hrel
    clear HP1
    by_cases hlt : k < p.vars.length
    · have k0 : (0 : Int) ≤ k := by omega
      have k1' : (k : Int) < p.vars.length := by omega
      obtain ⟨x, hxk⟩ : ∃ x, p.vars[k]? = some x := ⟨_, List.getElem?_eq_getElem hlt⟩
      obtain ⟨b, o, rfl, hb, hc0⟩ : ∃ b o, a1 = some ⟨b, o, none⟩ ∧ b < w0.heap.size ∧ w0.cell? ⟨b, o + k, none⟩ = some (.string x) := by
        obtain ⟨_, _, hv, _, _, hcs⟩ := H1.out
        cases hv
        rcases hcs with h | ⟨b, o, h1, h2, h3⟩
        · rw [h] at hlt; simp at hlt
        · exact ⟨b, o, h1, h2, h3 k x hxk⟩
      have z0 := (HPr.out.low.1.cell (p := ⟨b, o + k, none⟩) hb).trans hc0
      have hbl : b < wr.heap.size := Nat.lt_of_lt_of_le hb HPr.out.low.1.size
      obtain ⟨st1, st2⟩ := globalsC_step HG.out hxk
      have ST1 := Keep.mk st1
      have ST2 := Keep.mk st2
      have HVT : Keep (p.vars.take k ++ [x] = p.vars.take (k + 1)) := ⟨by rw [List.take_add_one, hxk]; rfl⟩
      have HGA := Keep.mk (global_any HPr.out x (by have := HF.out.names x (.inl (List.mem_of_getElem? hxk)); unfold maxLen; omega))
      clear hc0 hxk st1 st2
      go_wp2_with fail
      refine HGA.out.mono ?_
      rintro e w4 hE
      clear HGA z0 hbl
      obtain ⟨r, hr⟩ : ∃ r, globalC g x = r := ⟨_, rfl⟩
      rw [hr] at hE
      cases r with
      | bad v =>
        obtain ⟨hB, hl⟩ := hE
        obtain rfl : e = _ := hB
        exact ⟨rfl, PrgEnd.bad (bind_no HQ.out (ST2.out v hr)) hl.1⟩
      | ok g' =>
        obtain ⟨⟨v4, rfl⟩, hP4⟩ := hE
        have HP4 := Keep.mk hP4
        obtain ⟨_, c1', _⟩ := hP4.cells
        have hl4 := hP4.lt
        obtain ⟨m, hM, hm⟩ := hP4.v
        have HM := Keep.mk hM
        have Hm := Keep.mk hm
        have HR := Keep.mk (ST1.out.trans hr)
        clear hP4 hM hm hr HPr
        go_wp2_with (first
          | ((with_reducible (show wpList _ _ _ (⟨none, Op.mapUpdate _ _ _ _, _, _, _, _⟩ :: _) _ _)); go_must (refine wpList_store rfl _ _ _ _ rfl Try.underlying37 rfl HM.out _ rfl ?_); intro w' h1 h2; have HP := Keep.mk (HP4.out.putV Hm.out h1 h2); clear h1 h2))
        go_roundw
        case rel => exact ⟨k + 1, g', by omega, by go_num, HR, ⟨by rw [← HVT.out]; exact HP.out⟩⟩
        case measure => simp [intOf]; omega
    · have hka : k = p.vars.length := by omega
      subst hka
      rw [List.take_length] at HG HPr
      have HQ1 := Keep.mk (bind_is HQ.out HG.out)
      have x1 : wr.cell? ⟨Y, 1, none⟩ = some (.slice a2 p.arrays.length c2) := by simp [World.cell?, (HX.out wr HPr.out.low).1]
      have xl := (HX.out wr HPr.out.low).2
      clear HQ HG
      go_wp2_with fail
      clear x1 xl hk hlt
      generalize wr = wo1 at *
      go_loopw [36] (fun i wr => ∃ (k : Nat) (g2 : List BA), k ≤ p.arrays.length ∧ i = .int .i64 k ∧ Keep (globalsC g ((p.arrays.map (·.1)).take k) = .ok g2) ∧ Keep (PrSt w0 wk wr B G V A F ⟨g2, p.vars, (p.arrays.map (·.1)).take k, [], nm, []⟩)) (fun i _ => p.arrays.length - (intOf i).toNat)
      case atStart => exact ⟨0, g, Nat.zero_le _, rfl, ⟨rfl⟩, HPr⟩
      case round =>
        obtain ⟨k, g2, hk, rfl, HG, HP2⟩ := hrel
        clear HPr
        by_cases hlt : k < p.arrays.length
        · have k0 : (0 : Int) ≤ k := by omega
          have k1' : (k : Int) < p.arrays.length := by omega
          obtain ⟨⟨x, sz⟩, hxk⟩ : ∃ x, p.arrays[k]? = some x := ⟨_, List.getElem?_eq_getElem hlt⟩
          obtain ⟨b, o, cap, hv, hb, hc0, hc1⟩ := H2.out.get hxk
          simp only [Value.slice.injEq, true_and] at hv
          obtain ⟨rfl, rfl⟩ := hv
          have z0 := (HP2.out.low.1.cell (p := ⟨b, o + k * 2, none⟩) hb).trans hc0
          have z1 := (HP2.out.low.1.cell (p := ⟨b, o + k * 2 + 1, none⟩) hb).trans hc1
          have hbl : b < wr.heap.size := Nat.lt_of_lt_of_le hb HP2.out.low.1.size
          have hxm : (p.arrays.map (·.1))[k]? = some x := by rw [List.getElem?_map, hxk]; rfl
          obtain ⟨st1, st2⟩ := globalsC_step HG.out hxm
          have ST1 := Keep.mk st1
          have ST2 := Keep.mk st2
          have HVT : Keep ((p.arrays.map (·.1)).take k ++ [x] = (p.arrays.map (·.1)).take (k + 1)) := ⟨by rw [List.take_add_one, hxm]; rfl⟩
          have HXS : Keep (x.size ≤ maxLen) := ⟨by have := HF.out.names x (.inr (.inl (List.mem_of_getElem? hxm))); unfold maxLen; omega⟩
          clear hc0 hc1 hxk hxm st1 st2
          go_upto_region 10 with (fail)
          obtain ⟨Z, hZ⟩ : ∃ Z, Z = wr.heap.size := ⟨_, rfl⟩
          have hbs : Below wr.heap.size wr (wr.alloc (.cells #[.string x, .int .i64 sz] 68)) := (Below.refl _ _).alloc (Nat.le_refl _) _
          have hZ1 : (wr.alloc (.cells #[.string x, .int .i64 sz] 68)).heap[wr.heap.size]? = some (.cells #[.string x, .int .i64 sz] 68 (0, 0)) := heap_alloc_new wr _
          have HPs := Keep.mk (HP2.out.below hbs)
          have HZN : Keep (w0.heap.size ≤ Z ∧ (Z ≠ B ∧ Z ≠ G ∧ Z ≠ V ∧ Z ≠ A ∧ Z ≠ F)) := ⟨by
            have := HP2.out.low.1.size
            have := HP2.out.lt
            have := HP2.out.g.lt
            have := HP2.out.v.lt
            have := HP2.out.a.lt
            have := HP2.out.f.lt
            omega⟩
          rw [← hZ] at hZ1 ⊢
          have HZ1 := Keep.mk hZ1
          clear z0 z1 hbl hZ1 hbs HP2 hZ
          generalize (wr.alloc (.cells #[.string x, .int .i64 sz] 68)) = ws at *
          have q0 : ws.cell? ⟨Z, 0, none⟩ = some (.string x) := by simp [World.cell?, HZ1.out]
          have ql : Z < ws.heap.size := (Array.getElem?_eq_some_iff.1 HZ1.out).1
          have HGA := Keep.mk (global_any (wk := ws) { HPs.out with low := Lw.refl HPs.out.low.1 } x HXS.out)
          go_wp2_with fail
          refine HGA.out.mono ?_
          rintro e w4 hE
          clear HGA q0 ql
          obtain ⟨r, hr⟩ : ∃ r, globalC g2 x = r := ⟨_, rfl⟩
          rw [hr] at hE
          cases r with
          | bad v =>
            obtain ⟨hB, hl⟩ := hE
            obtain rfl : e = _ := hB
            exact ⟨rfl, PrgEnd.bad (bind_no HQ1.out (ST2.out v hr)) hl.1⟩
          | ok g' =>
            obtain ⟨⟨v4, rfl⟩, hP4⟩ := hE
            have hx4 := (hP4.low.2.block Z (Array.getElem?_eq_some_iff.1 HZ1.out).1 HZN.out.2.1 HZN.out.2.2.1 HZN.out.2.2.2.1 HZN.out.2.2.2.2.1 HZN.out.2.2.2.2.2).trans HZ1.out
            have q0 : w4.cell? ⟨Z, 0, none⟩ = some (.string x) := by simp [World.cell?, hx4]
            have ql : Z < w4.heap.size := (Array.getElem?_eq_some_iff.1 hx4).1
            have HL4 : Keep (Lw w0 wk w4 B G V A F) := ⟨hP4.low.1, Nat.le_trans HPs.out.low.2.size hP4.low.2.size, fun j hj a b c d e => (hP4.low.2.block j (Nat.lt_of_lt_of_le hj HPs.out.low.2.size) a b c d e).trans (HPs.out.low.2.block j hj a b c d e)⟩
            have HP4 : Keep (PrSt w0 wk w4 B G V A F ⟨g', p.vars, (p.arrays.map (·.1)).take k, [], nm, []⟩) := ⟨{ hP4 with low := HL4.out }⟩
            obtain ⟨_, _, c1', _⟩ := hP4.cells
            have hl4 := hP4.lt
            obtain ⟨m, hM, hm⟩ := hP4.a
            have HM := Keep.mk hM
            have Hm := Keep.mk hm
            have HR := Keep.mk (ST1.out.trans hr)
            clear hP4 hM hm hr HPs hx4 HZ1
            go_upto_region 11 with (fail)
            go_still_tail 6, (by kernel_rfl)
            change wpList _ _ _ _ _ w4.drew
            go_wp2_with (first
              | ((with_reducible (show wpList _ _ _ (⟨none, Op.mapUpdate _ _ _ _, _, _, _, _⟩ :: _) _ _)); go_must (refine wpList_store rfl _ _ _ _ rfl Try.underlying37 rfl (show MapIs SK w4.drew A m from HM.out) _ rfl ?_); intro w' h1 h2; have HP := Keep.mk ((HP4.out.below (Below.refl _ _).drew).putA Hm.out h1 h2); clear h1 h2))
            go_roundw
            case rel => exact ⟨k + 1, g', by omega, by go_num, HR, ⟨by rw [← HVT.out]; exact HP.out⟩⟩
            case measure => simp [intOf]; omega
        · have hka : k = p.arrays.length := by omega
          subst hka
          rw [List.take_of_length_le (by simp)] at HG HP2
          have HQ2 := Keep.mk (bind_is HQ1.out HG.out)
          have x1 : wr.cell? ⟨Y, 2, none⟩ = some (.slice a3 p.funcs.length c3) := by simp [World.cell?, (HX.out wr HP2.out.low).1]
          have xl := (HX.out wr HP2.out.low).2
          clear HQ1 HG
          go_wp2_with fail
          clear x1 xl hk hlt
          generalize wr = wo2 at *
          go_loopw [54] (fun i wr => ∃ (k : Nat) (g3 : List BA), k ≤ p.funcs.length ∧ i = .int .i64 k ∧ Keep (globalsC g2 ((p.funcs.map Fu.name).take k) = .ok g3) ∧ Keep (PrSt w0 wk wr B G V A F ⟨g3, p.vars, p.arrays.map (·.1), [], nm, []⟩)) (fun i _ => p.funcs.length - (intOf i).toNat)
          case atStart => exact ⟨0, g2, Nat.zero_le _, rfl, ⟨rfl⟩, HP2⟩
          case round =>
            obtain ⟨k, g3, hk, rfl, HG, HP3⟩ := hrel
            clear HP2
            by_cases hlt : k < p.funcs.length
            · have k0 : (0 : Int) ≤ k := by omega
              have k1' : (k : Int) < p.funcs.length := by omega
              obtain ⟨f, hfk⟩ : ∃ f, p.funcs[k]? = some f := ⟨_, List.getElem?_eq_getElem hlt⟩
              obtain ⟨b, o, cap, up, ul, ub, hv, hb, hc0, hc1, hc2, hc3, hS1, hS2, nb, hS3⟩ := H3.out.get hfk
              simp only [Value.slice.injEq, true_and] at hv
              obtain ⟨rfl, rfl⟩ := hv
              obtain ⟨b1, d1, rfl, _⟩ := hS1
              obtain ⟨b2, d2, rfl, _⟩ := hS2
              obtain ⟨b3, d3, rfl, _⟩ := hS3.len
              have z0 := (HP3.out.low.1.cell (p := ⟨b, o + k * 4, none⟩) hb).trans hc0
              have z1 := (HP3.out.low.1.cell (p := ⟨b, o + k * 4 + 1, none⟩) hb).trans hc1
              have z2 := (HP3.out.low.1.cell (p := ⟨b, o + k * 4 + 2, none⟩) hb).trans hc2
              have z3 := (HP3.out.low.1.cell (p := ⟨b, o + k * 4 + 3, none⟩) hb).trans hc3
              have hbl : b < wr.heap.size := Nat.lt_of_lt_of_le hb HP3.out.low.1.size
              have hxm : (p.funcs.map Fu.name)[k]? = some f.name := by rw [List.getElem?_map, hfk]; rfl
              obtain ⟨st1, st2⟩ := globalsC_step HG.out hxm
              have ST1 := Keep.mk st1
              have ST2 := Keep.mk st2
              have HXS : Keep (f.name.size ≤ maxLen) := ⟨by have := HF.out.names f.name (.inr (.inr ⟨f, List.mem_of_getElem? hfk, .inl rfl⟩)); unfold maxLen; omega⟩
              generalize f.name = x at *
              clear hc0 hc1 hc2 hc3 hfk hxm st1 st2 hS3
              go_upto_region 16 with (fail)
              have hbs : Below wr.heap.size wr (wr.alloc (.cells #[.string x, .slice b1 f.params.length d1, .slice b2 f.locals.length d2, .slice b3 f.body.length d3] 36)) := (Below.refl _ _).alloc (Nat.le_refl _) _
              have hZ1 : (wr.alloc (.cells #[.string x, .slice b1 f.params.length d1, .slice b2 f.locals.length d2, .slice b3 f.body.length d3] 36)).heap[wr.heap.size]? = some (.cells #[.string x, .slice b1 f.params.length d1, .slice b2 f.locals.length d2, .slice b3 f.body.length d3] 36 (0, 0)) := heap_alloc_new wr _
              have HPs := Keep.mk (HP3.out.below hbs)
              have HZ1 := Keep.mk hZ1
              clear z0 z1 z2 z3 hbl hZ1 hbs HP3
              generalize (wr.alloc (.cells #[.string x, .slice b1 f.params.length d1, .slice b2 f.locals.length d2, .slice b3 f.body.length d3] 36)) = ws at *
              have q0 : ws.cell? ⟨wr.heap.size, 0, none⟩ = some (.string x) := by simp [World.cell?, HZ1.out]
              have ql : wr.heap.size < ws.heap.size := (Array.getElem?_eq_some_iff.1 HZ1.out).1
              have HGA := Keep.mk (global_any HPs.out x HXS.out)
              go_wp2_with fail
              refine HGA.out.mono ?_
              rintro e w4 hE
              clear HGA q0 ql
              obtain ⟨r, hr⟩ : ∃ r, globalC g3 x = r := ⟨_, rfl⟩
              rw [hr] at hE
              cases r with
              | bad v =>
                obtain ⟨hB, hl⟩ := hE
                obtain rfl : e = _ := hB
                exact ⟨rfl, PrgEnd.bad (bind_no HQ2.out (ST2.out v hr)) hl.1⟩
              | ok g' =>
                obtain ⟨⟨v4, rfl⟩, hP4⟩ := hE
                have HP4 := Keep.mk hP4
                have HR := Keep.mk (ST1.out.trans hr)
                clear hP4 hr HPs HZ1
                go_wp2_with fail
                go_roundw
                case rel => exact ⟨k + 1, g', by omega, by go_num, HR, HP4⟩
                case measure => simp [intOf]; omega
            · have hka : k = p.funcs.length := by omega
              subst hka
              rw [List.take_of_length_le (by simp)] at HG
              have HQ3 := Keep.mk (bind_is HQ2.out HG.out)
              have x1 : wr.cell? ⟨Y, 1, none⟩ = some (.slice a2 p.arrays.length c2) := by simp [World.cell?, (HX.out wr HP3.out.low).1]
              have xl := (HX.out wr HP3.out.low).2
              clear HQ2 HG
              go_wp2_with fail
              clear x1 xl hk hlt
              generalize wr = wo3 at *
              go_loopw [66, 10] (fun i s10 wr => ∃ (k : Nat) (t : Int), k ≤ p.arrays.length ∧ i = .int .i64 k ∧ s10 = .int .i64 t ∧ 0 ≤ t ∧ t ≤ 150000 ∧ Keep (arraysC 0 (p.arrays.take k) = .ok t) ∧ Keep (PrSt w0 wk wr B G V A F ⟨g3, p.vars, p.arrays.map (·.1), [], nm, []⟩)) (fun i _ _ => p.arrays.length - (intOf i).toNat)
              case atStart => exact ⟨0, 0, Nat.zero_le _, rfl, rfl, by omega, by omega, ⟨rfl⟩, HP3⟩
              case round =>
                obtain ⟨k, t, hk, rfl, rfl, ht0, ht1, HG, HP4⟩ := hrel
                clear HP3
                by_cases hlt : k < p.arrays.length
                · have k0 : (0 : Int) ≤ k := by omega
                  have k1' : (k : Int) < p.arrays.length := by omega
                  obtain ⟨⟨x, sz⟩, hxk⟩ : ∃ x, p.arrays[k]? = some x := ⟨_, List.getElem?_eq_getElem hlt⟩
                  obtain ⟨b, o, cap, hv, hb, hc0, hc1⟩ := H2.out.get hxk
                  simp only [Value.slice.injEq, true_and] at hv
                  obtain ⟨rfl, rfl⟩ := hv
                  have z0 := (HP4.out.low.1.cell (p := ⟨b, o + k * 2, none⟩) hb).trans hc0
                  have z1 := (HP4.out.low.1.cell (p := ⟨b, o + k * 2 + 1, none⟩) hb).trans hc1
                  have hbl : b < wr.heap.size := Nat.lt_of_lt_of_le hb HP4.out.low.1.size
                  obtain ⟨st1, st2⟩ := arraysC_step HG.out hxk
                  have ST1 := Keep.mk st1
                  have ST2 := Keep.mk st2
                  clear hc0 hc1 hxk st1 st2
                  go_upto_region 22 with (fail)
                  have hbs : Below wr.heap.size wr (wr.alloc (.cells #[.string x, .int .i64 sz] 68)) := (Below.refl _ _).alloc (Nat.le_refl _) _
                  have hZ1 : (wr.alloc (.cells #[.string x, .int .i64 sz] 68)).heap[wr.heap.size]? = some (.cells #[.string x, .int .i64 sz] 68 (0, 0)) := heap_alloc_new wr _
                  have HPs := Keep.mk (HP4.out.below hbs)
                  have HZ1 := Keep.mk hZ1
                  clear z0 z1 hbl hZ1 hbs HP4
                  generalize (wr.alloc (.cells #[.string x, .int .i64 sz] 68)) = ws at *
                  have q0 : ws.cell? ⟨wr.heap.size, 0, none⟩ = some (.string x) := by simp [World.cell?, HZ1.out]
                  have q1 : ws.cell? ⟨wr.heap.size, 1, none⟩ = some (.int .i64 sz) := by simp [World.cell?, HZ1.out]
                  have ql : wr.heap.size < ws.heap.size := (Array.getElem?_eq_some_iff.1 HZ1.out).1
                  by_cases hs1 : 0 < sz
                  · have e1 : decide ((0 : Int) < sz) = true := decide_eq_true hs1
                    rw [e1] at ST1 ST2
                    go_wp2_with fail
                    refine (require_ok _ _ _).mono ?_
                    rintro _ w5 ⟨⟨v5, rfl⟩, rfl⟩
                    by_cases hs2 : sz ≤ 150000 - t
                    · have e2 : decide (sz ≤ 150000 - t) = true := decide_eq_true hs2
                      rw [e2] at ST1
                      go_wp2_with fail
                      refine (require_ok _ _ _).mono ?_
                      rintro _ w6 ⟨⟨v6, rfl⟩, rfl⟩
                      go_wp2_with fail
                      go_roundw
                      case rel => exact ⟨k + 1, t + sz, by omega, by go_num, rfl, by omega, by omega, ST1, HPs⟩
                      case measure => simp [intOf]; omega
                    · have e2 : decide (sz ≤ 150000 - t) = false := decide_eq_false hs2
                      rw [e2] at ST2
                      go_wp2_with fail
                      refine (require_bad _ _ _).mono ?_
                      rintro _ w6 ⟨rfl, rfl⟩
                      exact ⟨rfl, PrgEnd.bad (bind_no HQ3.out (ST2.out (x, 6) rfl)) HPs.out.low.1⟩
                  · have e1 : decide ((0 : Int) < sz) = false := decide_eq_false hs1
                    rw [e1] at ST2
                    go_wp2_with fail
                    refine (require_bad _ _ _).mono ?_
                    rintro _ w6 ⟨rfl, rfl⟩
                    exact ⟨rfl, PrgEnd.bad (bind_no HQ3.out (ST2.out (x, 2) rfl)) HPs.out.low.1⟩
                · have hka : k = p.arrays.length := by omega
                  subst hka
                  rw [List.take_length] at HG
                  have HQ4 := Keep.mk (bind_is HQ3.out HG.out)
                  have x1 : wr.cell? ⟨Y, 2, none⟩ = some (.slice a3 p.funcs.length c3) := by simp [World.cell?, (HX.out wr HP4.out.low).1]
                  have xl := (HX.out wr HP4.out.low).2
                  clear HQ3 HG
                  go_wp2_with fail
                  clear x1 xl hk hlt ht0 ht1
                  generalize wr = wo4 at *
                  obtain ⟨c0, hc0⟩ : ∃ c0 : Cx, c0 = ⟨g3, p.vars, p.arrays.map (·.1), [], ⟨#[]⟩, []⟩ := ⟨_, rfl⟩
                  have HP5 : Keep (PrSt w0 wk wo4 B G V A F c0) := ⟨by rw [hc0]; exact HP4.out.ren rfl rfl rfl rfl⟩
                  have HSM : Keep (Small c0 2) := ⟨by rw [hc0]; exact ⟨fun x f h => by cases h⟩⟩
                  rw [← hc0] at HQ4
                  clear hc0 HP4
                  have hwt : (p.funcs.map wgt).sum ≤ 100000000 := by
                    have : (p.funcs.map wgt).sum = (p.funcs.map fun f => 4 + f.params.length + f.locals.length + 5 * nodesS f.body).sum := rfl
                    omega
                  go_loopw [92] (fun i wr => ∃ (k : Nat) (c : Cx), k ≤ p.funcs.length ∧ i = .int .i64 k ∧ Keep (functionsC c0 (p.funcs.take k) = .ok c) ∧ Keep (Small c (2 + ((p.funcs.take k).map wgt).sum)) ∧ Keep (PrSt w0 wk wr B G V A F c)) (fun i _ => p.funcs.length - (intOf i).toNat)
                  case atStart => exact ⟨0, c0, Nat.zero_le _, rfl, ⟨rfl⟩, ⟨by simpa using HSM.out⟩, HP5⟩
                  case round =>
                    obtain ⟨k, c, hk, rfl, HG, HSk, HPk⟩ := hrel
                    clear HP5 HSM
                    by_cases hlt : k < p.funcs.length
                    · have k0 : (0 : Int) ≤ k := by omega
                      have k1' : (k : Int) < p.funcs.length := by omega
                      obtain ⟨f, hfk⟩ : ∃ f, p.funcs[k]? = some f := ⟨_, List.getElem?_eq_getElem hlt⟩
                      obtain ⟨b, o, cap, up, ul, ub, hv, hb, hc0, hc1, hc2, hc3, hS1, hS2, nb, hS3⟩ := H3.out.get hfk
                      simp only [Value.slice.injEq, true_and] at hv
                      obtain ⟨rfl, rfl⟩ := hv
                      have HS1 := Keep.mk hS1
                      have HS2 := Keep.mk hS2
                      have HS3 := Keep.mk hS3
                      obtain ⟨b1, d1, rfl, _⟩ := hS1
                      obtain ⟨b2, d2, rfl, _⟩ := hS2
                      obtain ⟨b3, d3, rfl, _⟩ := hS3.len
                      have z0 := (HPk.out.low.1.cell (p := ⟨b, o + k * 4, none⟩) hb).trans hc0
                      have z1 := (HPk.out.low.1.cell (p := ⟨b, o + k * 4 + 1, none⟩) hb).trans hc1
                      have z2 := (HPk.out.low.1.cell (p := ⟨b, o + k * 4 + 2, none⟩) hb).trans hc2
                      have z3 := (HPk.out.low.1.cell (p := ⟨b, o + k * 4 + 3, none⟩) hb).trans hc3
                      have hbl : b < wr.heap.size := Nat.lt_of_lt_of_le hb HPk.out.low.1.size
                      obtain ⟨st1, st2⟩ := functionsC_step HG.out hfk
                      have ST1 := Keep.mk st1
                      have ST2 := Keep.mk st2
                      have hmem := List.mem_of_getElem? hfk
                      have HNM : Keep (∀ x ∈ f.params ++ f.locals, x.size ≤ maxLen) := ⟨fun x hx => by
                        have := HF.out.names _ (.inr (.inr ⟨f, hmem, .inr (List.mem_append.1 hx)⟩))
                        unfold maxLen; omega⟩
                      have hfu := HF.out.fu hmem
                      have HWS := Keep.mk (wsum_step hfk)
                      have HWT := Keep.mk (wsum_take p.funcs k)
                      clear hc0 hc1 hc2 hc3 hfk hmem st1 st2 hS3
                      go_upto_region 29 with (fail)
                      have hbs : Below wr.heap.size wr (wr.alloc (.cells #[.string f.name, .slice b1 f.params.length d1, .slice b2 f.locals.length d2, .slice b3 f.body.length d3] 36)) := (Below.refl _ _).alloc (Nat.le_refl _) _
                      have hZ1 : (wr.alloc (.cells #[.string f.name, .slice b1 f.params.length d1, .slice b2 f.locals.length d2, .slice b3 f.body.length d3] 36)).heap[wr.heap.size]? = some (.cells #[.string f.name, .slice b1 f.params.length d1, .slice b2 f.locals.length d2, .slice b3 f.body.length d3] 36 (0, 0)) := heap_alloc_new wr _
                      have HPs := Keep.mk (HPk.out.below hbs)
                      have HZ1 := Keep.mk hZ1
                      clear z0 z1 z2 z3 hbl hZ1 hbs HPk
                      generalize (wr.alloc (.cells #[.string f.name, .slice b1 f.params.length d1, .slice b2 f.locals.length d2, .slice b3 f.body.length d3] 36)) = ws at *
                      have q0 : ws.cell? ⟨wr.heap.size, 0, none⟩ = some (.string f.name) := by simp [World.cell?, HZ1.out]
                      have q1 : ws.cell? ⟨wr.heap.size, 1, none⟩ = some (.slice b1 f.params.length d1) := by simp [World.cell?, HZ1.out]
                      have q2 : ws.cell? ⟨wr.heap.size, 2, none⟩ = some (.slice b2 f.locals.length d2) := by simp [World.cell?, HZ1.out]
                      have q3 : ws.cell? ⟨wr.heap.size, 3, none⟩ = some (.slice b3 f.body.length d3) := by simp [World.cell?, HZ1.out]
                      have ql : wr.heap.size < ws.heap.size := (Array.getElem?_eq_some_iff.1 HZ1.out).1
                      have HGA := Keep.mk (function_any HPs.out HSk.out f HS1.out HS2.out HS3.out HNM.out (by have := HWT.out; omega) (by omega) (by omega) (by omega))
                      go_wp2_with fail
                      refine HGA.out.mono ?_
                      rintro e w4 hE
                      clear HGA q0 q1 q2 q3 ql
                      obtain ⟨r, hr⟩ : ∃ r, functionC c f = r := ⟨_, rfl⟩
                      rw [hr] at hE
                      cases r with
                      | bad v =>
                        obtain ⟨hB, hl⟩ := hE
                        obtain rfl : e = _ := hB
                        exact ⟨rfl, PrgEnd.bad (bind_no HQ4.out (ST2.out v hr)) hl.1⟩
                      | ok c' =>
                        obtain ⟨⟨v4, rfl⟩, hP4⟩ := hE
                        have HP4 := Keep.mk hP4
                        have HR := Keep.mk (ST1.out.trans hr)
                        have HS' : Keep (Small c' (2 + ((p.funcs.take (k + 1)).map wgt).sum)) := ⟨by
                          have := functionC_small HSk.out (by omega) hr
                          rw [HWS.out]
                          rwa [Nat.add_assoc] at this⟩
                        clear hP4 hr HPs HZ1 HSk HWS HWT
                        go_wp2_with fail
                        go_roundw
                        case rel => exact ⟨k + 1, c', by omega, by go_num, HR, HS', HP4⟩
                        case measure => simp [intOf]; omega
                    · have hka : k = p.funcs.length := by omega
                      subst hka
                      rw [List.take_length] at HG
                      have HQ5 := Keep.mk (bind_is HQ4.out HG.out)
                      clear HQ4 HG HSk
                      have x2 : wr.cell? ⟨Y, 2, none⟩ = some (.slice a3 p.funcs.length c3) := by simp [World.cell?, (HX.out wr HPk.out.low).1]
                      have xl := (HX.out wr HPk.out.low).2
                      clear hlt hk
                      by_cases hn : p.funcs.length = 0
                      · have hnil : p.funcs = [] := List.eq_nil_of_length_eq_zero hn
                        have e1 : ¬ (0 : Int) < (p.funcs.length : Int) := by omega
                        have HL : Keep (lastMain p = false) := ⟨by unfold lastMain; rw [hnil]; rfl⟩
                        rw [HL.out] at HQ5
                        clear hn hnil
                        go_wp2_with fail
                        refine (require_bad _ _ _).mono ?_
                        rintro _ w6 ⟨rfl, rfl⟩
                        exact ⟨rfl, PrgEnd.bad HQ5.out HPk.out.low.1⟩
                      · obtain ⟨m, hm⟩ : ∃ m, p.funcs.length = m + 1 := ⟨p.funcs.length - 1, by omega⟩
                        obtain ⟨f, hfk⟩ : ∃ f, p.funcs[m]? = some f := ⟨_, List.getElem?_eq_getElem (by omega)⟩
                        obtain ⟨b, o, cap, up, ul, ub, hv, hb, hc0, hc1, hc2, hc3, hS1, hS2, nb, hS3⟩ := H3.out.get hfk
                        simp only [Value.slice.injEq, true_and] at hv
                        obtain ⟨rfl, rfl⟩ := hv
                        obtain ⟨b1, d1, rfl, _⟩ := hS1
                        have z0 := (HPk.out.low.1.cell (p := ⟨b, o + m * 4, none⟩) hb).trans hc0
                        have z1 := (HPk.out.low.1.cell (p := ⟨b, o + m * 4 + 1, none⟩) hb).trans hc1
                        have hbl : b < wr.heap.size := Nat.lt_of_lt_of_le hb HPk.out.low.1.size
                        have HLM := Keep.mk (lastMain_at hm hfk)
                        rw [HLM.out] at HQ5
                        have e1 : (0 : Int) < (p.funcs.length : Int) := by omega
                        have em : (p.funcs.length : Int) - 1 = (m : Int) := by omega
                        have m0 : (0 : Int) ≤ (m : Int) := by omega
                        have m1 : (m : Int) < (p.funcs.length : Int) := by omega
                        have en : (f.name.toList == [109, 97, 105, 110]) = decide (f.name = sMain) := eqs f.name (by decide +kernel)
                        have ep : ((f.params.length : Int) == 0) = decide (f.params.length = 0) := beq_nat0 _
                        clear hm hn hc0 hc1 hc2 hc3 hS2 hS3 hfk
                        by_cases hnm : f.name = sMain
                        · rw [decide_eq_true hnm] at en HQ5
                          by_cases hpn : f.params.length = 0
                          · rw [decide_eq_true hpn] at ep HQ5
                            clear hnm hpn
                            go_wp2_with fail
                            refine (require_ok _ _ _).mono ?_
                            rintro _ w6 ⟨⟨v6, rfl⟩, rfl⟩
                            obtain ⟨_, _, _, c3'⟩ := HPk.out.cells
                            have hl := HPk.out.lt
                            have hlk := HPk.out.f.look1 sMain
                            obtain ⟨pa, hval⟩ := sm_value (lookF sMain c.funcs)
                            rw [hval] at hlk
                            generalize ((lookF sMain c.funcs).map Sm.need).getD 0 = nd at *
                            generalize ((lookF sMain c.funcs).map Sm.depth).getD 0 = dp at *
                            clear hval
                            unfold sMain at hlk
                            go_upto_region 34 with (fail)
                            have hbs : Below wr.heap.size wr (wr.alloc (.cells #[.int .i64 pa, .int .i64 nd, .int .i64 dp] 110)) := (Below.refl _ _).alloc (Nat.le_refl _) _
                            have hZ1 : (wr.alloc (.cells #[.int .i64 pa, .int .i64 nd, .int .i64 dp] 110)).heap[wr.heap.size]? = some (.cells #[.int .i64 pa, .int .i64 nd, .int .i64 dp] 110 (0, 0)) := heap_alloc_new wr _
                            have HPs := Keep.mk (HPk.out.below hbs)
                            have HZ1 := Keep.mk hZ1
                            clear z0 z1 hbl hZ1 hbs HPk x2 xl c3' hl hlk
                            generalize (wr.alloc (.cells #[.int .i64 pa, .int .i64 nd, .int .i64 dp] 110)) = ws at *
                            have x0 : ws.cell? ⟨Y, 0, none⟩ = some (.slice a1 p.vars.length c1) := by simp [World.cell?, (HX.out ws HPs.out.low).1]
                            have x1 : ws.cell? ⟨Y, 1, none⟩ = some (.slice a2 p.arrays.length c2) := by simp [World.cell?, (HX.out ws HPs.out.low).1]
                            have x2 : ws.cell? ⟨Y, 2, none⟩ = some (.slice (some ⟨b, o, none⟩) p.funcs.length c3) := by simp [World.cell?, (HX.out ws HPs.out.low).1]
                            have xl := (HX.out ws HPs.out.low).2
                            have HSC := Keep.mk (scalars_any (p := p) ⟨H1.out.below HPs.out.low.1 (Nat.le_refl _), H2.out.below HPs.out.low.1 (Nat.le_refl _), H3.out.below HPs.out.low.1 (Nat.le_refl _)⟩ HF.out)
                            go_wp2_with fail
                            refine HSC.out.mono ?_
                            rintro _ w7 ⟨v7, rfl, hrow, hb7⟩
                            obtain ⟨a7, c7, rfl⟩ := ownsRow_slice hrow
                            have HB7 := Keep.mk (HPs.out.low.1.trans (hb7.mono HPs.out.low.1.size))
                            have hx7 := (hb7.block wr.heap.size (Array.getElem?_eq_some_iff.1 HZ1.out).1).trans HZ1.out
                            have q1 : w7.cell? ⟨wr.heap.size, 1, none⟩ = some (.int .i64 nd) := by simp [World.cell?, hx7]
                            have q2 : w7.cell? ⟨wr.heap.size, 2, none⟩ = some (.int .i64 dp) := by simp [World.cell?, hx7]
                            have ql : wr.heap.size < w7.heap.size := (Array.getElem?_eq_some_iff.1 hx7).1
                            have HSN := Keep.mk (scalarsL_length p)
                            generalize (scalarsL p).length = sl at *
                            rw [← HSN.out] at HQ5
                            clear x0 x1 x2 xl hrow hb7 hx7 HSC
                            by_cases g1 : sl ≤ 8000
                            · have d1 : (sl : Int) ≤ 8000 := by omega
                              rw [decide_eq_true g1] at HQ5
                              by_cases g2 : nd ≤ 200
                              · have d2 : (nd : Int) ≤ 200 := by omega
                                rw [decide_eq_true g2] at HQ5
                                by_cases g3 : dp ≤ 60
                                · have d3 : (dp : Int) ≤ 60 := by omega
                                  have HR : Keep (q = .ok ()) := ⟨by rw [HQ5.out, decide_eq_true g3]; simp [req, Res.bind]⟩
                                  clear HQ5
                                  clear g1 g2 g3
                                  go_wp2_with fail
                                  refine (require_ok _ _ _).mono ?_
                                  rintro _ w8 ⟨⟨v8, rfl⟩, rfl⟩
                                  go_wp2_with fail
                                  go_end0
                                  exact PrgEnd.ok HR.out HB7.out
                                · have d3 : decide ((dp : Int) ≤ 60) = false := decide_eq_false (by omega)
                                  have HR : Keep (q = .bad (sMain, 6)) := ⟨by rw [HQ5.out, decide_eq_false g3]; simp [req, Res.bind]⟩
                                  clear HQ5
                                  clear g1 g2 g3
                                  go_wp2_with fail
                                  refine (require_bad _ _ _).mono ?_
                                  rintro _ w8 ⟨rfl, rfl⟩
                                  exact ⟨rfl, PrgEnd.bad HR.out HB7.out⟩
                              · have d2 : ¬ (nd : Int) ≤ 200 := by omega
                                have HR : Keep (q = .bad (sMain, 6)) := ⟨by rw [HQ5.out, decide_eq_false g2]; simp [req, Res.bind]⟩
                                clear HQ5
                                clear g1 g2
                                go_wp2_with fail
                                refine (require_bad _ _ _).mono ?_
                                rintro _ w8 ⟨rfl, rfl⟩
                                exact ⟨rfl, PrgEnd.bad HR.out HB7.out⟩
                            · have d1 : ¬ (sl : Int) ≤ 8000 := by omega
                              have HR : Keep (q = .bad (sMain, 6)) := ⟨by rw [HQ5.out, decide_eq_false g1]; simp [req, Res.bind]⟩
                              clear HQ5
                              clear g1
                              go_wp2_with fail
                              refine (require_bad _ _ _).mono ?_
                              rintro _ w8 ⟨rfl, rfl⟩
                              exact ⟨rfl, PrgEnd.bad HR.out HB7.out⟩
                          · rw [decide_eq_false hpn] at ep HQ5
                            clear hnm hpn
                            go_wp2_with fail
                            refine (require_bad _ _ _).mono ?_
                            rintro _ w6 ⟨rfl, rfl⟩
                            exact ⟨rfl, PrgEnd.bad HQ5.out HPk.out.low.1⟩
                        · rw [decide_eq_false hnm] at en HQ5
                          clear hnm
                          go_wp2_with fail
                          refine (require_bad _ _ _).mono ?_
                          rintro _ w6 ⟨rfl, rfl⟩
                          exact ⟨rfl, PrgEnd.bad HQ5.out HPk.out.low.1⟩
end Go.Proofs.Ytgimdbflpdmlmaa
