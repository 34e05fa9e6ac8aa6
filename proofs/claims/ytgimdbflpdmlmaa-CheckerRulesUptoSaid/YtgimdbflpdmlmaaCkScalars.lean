/- The checker's Scalars. Condition: bounds. -/
import Derived.Test.YtgimdbflpdmlmaaCkConcat
namespace Go.Proofs.Ytgimdbflpdmlmaa
set_option maxRecDepth 100000
open Go.RowKit Go.Shelf Go.Proofs.Ytgimdbflpdmlmaa.Ck

/-- A copy of a list of strings. -/
theorem clone_strs {w : World} {v : Value} {l : List ByteArray} (h : Strs w v l) (hl : l.length ≤ 1000000000) : Calls Try.prog 34 #[v] w fun e w' => ∃ v', e = .returned v' ∧ OwnStrs w.heap.size w' v' l ∧ Below w.heap.size w w' := by
  obtain ⟨a, c, rfl, h1, h2, h3⟩ := h
  rcases h3 with rfl | ⟨b, o, rfl, hb, hc⟩
  · cases a with
    | none =>
      refine (Try.slices_Clone_string_nil 0 c w).mono ?_
      rintro _ w' ⟨rfl, rfl⟩
      exact ⟨_, rfl, OwnStrs.nil _ _, Below.refl _ _⟩
    | some a =>
      refine (Try.slices_Clone_string_zero a c w).mono ?_
      rintro _ w' ⟨v', rfl, h, _, hb⟩
      exact ⟨_, rfl, h, hb⟩
  · refine (Try.slices_Clone_string b o l.length c l w (Nat.le_refl _) (by omega) (fun j hj => ?_)).mono ?_
    · have := hc j l[j] (List.getElem?_eq_getElem hj)
      rw [this, List.getD_eq_getElem?_getD, List.getElem?_eq_getElem hj]; rfl
    · rintro _ w' ⟨v', rfl, h, _, hb⟩
      rw [List.take_length] at h
      exact ⟨_, rfl, h, hb⟩
def dotB (f s : ByteArray) : ByteArray := f ++ ⟨#[46]⟩ ++ s
/-- A function's scalars. -/
def fuScalars (f : Fu) : List ByteArray := (f.params ++ f.locals).map (dotB f.name)
def scalarsL (p : Pr) : List ByteArray := p.vars ++ p.funcs.flatMap fuScalars
theorem FnsAt.get {w : World} {v : Value} {l : List Fu} (h : FnsAt w v l) {i : Nat} {f : Fu} (hi : l[i]? = some f) : ∃ b o cap up ul ub, v = .slice (some ⟨b, o, none⟩) l.length cap ∧ b < w.heap.size ∧
    w.cell? ⟨b, o + i * 4, none⟩ = some (.string f.name) ∧ w.cell? ⟨b, o + i * 4 + 1, none⟩ = some up ∧ w.cell? ⟨b, o + i * 4 + 2, none⟩ = some ul ∧ w.cell? ⟨b, o + i * 4 + 3, none⟩ = some ub ∧ Strs w up f.params ∧ Strs w ul f.locals ∧ ∃ n, StsAt w n ub f.body := by
  have hlt := (List.getElem?_eq_some_iff.1 hi).1
  obtain ⟨a, cap, rfl, h1, h2, h3⟩ := h
  rcases h3 with rfl | ⟨b, o, rfl, hb, hc⟩
  · simp at hlt
  · obtain ⟨c0, up, ul, ub, c1, c2, c3, x⟩ := hc i f hi
    exact ⟨b, o, cap, up, ul, ub, rfl, hb, c0, c1, c2, c3, x⟩
theorem FnsAt.len {w : World} {v : Value} {l : List Fu} (h : FnsAt w v l) : ∃ a cap, v = .slice a l.length cap ∧ l.length ≤ cap ∧ cap ≤ maxLen := by obtain ⟨a, cap, rfl, h1, h2, _⟩ := h; exact ⟨a, cap, rfl, h1, h2⟩
theorem ArsAt.len {w : World} {v : Value} {l : List (ByteArray × Int)} (h : ArsAt w v l) : ∃ a cap, v = .slice a l.length cap ∧ l.length ≤ cap ∧ cap ≤ maxLen := by obtain ⟨a, cap, rfl, h1, h2, _⟩ := h; exact ⟨a, cap, rfl, h1, h2⟩
/-- Bounds on a program. -/
structure Fits (p : Pr) : Prop where
  names : ∀ x, x ∈ p.vars ∨ x ∈ p.arrays.map (·.1) ∨ (∃ f ∈ p.funcs, x = f.name ∨ x ∈ f.params ∨ x ∈ f.locals) → x.size ≤ 1000000
  total : p.vars.length + p.arrays.length + (p.funcs.map fun f => 4 + f.params.length + f.locals.length + 5 * nodesS f.body).sum ≤ 100000000
theorem sum_mem {α : Type} (g : α → Nat) : ∀ {l : List α} {x : α}, x ∈ l → g x ≤ (l.map g).sum
  | y :: l, x, h => by
    rw [List.map_cons, List.sum_cons]
    rcases List.mem_cons.1 h with rfl | h
    · omega
    · have := sum_mem g h; omega
theorem Fits.fu {p : Pr} (h : Fits p) {f : Fu} (hf : f ∈ p.funcs) : 4 + f.params.length + f.locals.length + 5 * nodesS f.body ≤ 100000000 := by
  have := sum_mem (fun f => 4 + f.params.length + f.locals.length + 5 * nodesS f.body) hf
  have := h.total
  omega
theorem flat_le {l : List Fu} : ∀ k, ((l.take k).flatMap fuScalars).length ≤ (l.map fun f => 4 + f.params.length + f.locals.length + 5 * nodesS f.body).sum := by
  induction l with
  | nil => simp
  | cons f l ih =>
    intro k
    cases k with
    | zero => simp
    | succ k =>
      have := ih k
      simp only [List.take_succ_cons, List.flatMap_cons, List.length_append, List.map_cons, List.sum_cons, fuScalars, List.length_map]
      omega

set_option maxHeartbeats 8000000 in
theorem scalars_any {w : World} {vs rs fs : Value} {p : Pr} (h : PrAt w vs rs fs p) (hfit : Fits p) :
    Calls Try.prog 15 #[.agg #[vs, rs, fs]] w fun e w' => ∃ v, e = .returned v ∧ OwnStrs w.heap.size w' v (scalarsL p) ∧ Below w.heap.size w w' := by
  obtain ⟨h1, h2, h3⟩ := h
  obtain ⟨a1, c1, rfl, k1, k2, _⟩ := id h1
  obtain ⟨a2, c2, rfl, k3, k4⟩ := h2.len
  obtain ⟨a3, c3, rfl, k5, k6⟩ := h3.len
  unfold maxLen at k2 k4 k6
  have H1 := Keep.mk h1
  have H3 := Keep.mk h3
  have HF := Keep.mk hfit
  have HT := hfit.total
  clear h1 h2 h3 hfit
  obtain ⟨i0, hi, hz0, hz1, hz2⟩ := info_parts Try.infoStrS
  go_enter Try.func15, Try.ntmps15
  have hb1 : Below w.heap.size w (w.alloc (.cells #[.slice a1 p.vars.length c1, .slice a2 p.arrays.length c2, .slice a3 p.funcs.length c3] 26)) := (Below.refl _ _).alloc (Nat.le_refl _) _
  have HX : (w.alloc (.cells #[.slice a1 p.vars.length c1, .slice a2 p.arrays.length c2, .slice a3 p.funcs.length c3] 26)).heap[w.heap.size]? = some (.cells #[.slice a1 p.vars.length c1, .slice a2 p.arrays.length c2, .slice a3 p.funcs.length c3] 26 (0, 0)) := heap_alloc_new w _
  have HCL := Keep.mk (clone_strs (H1.out.below hb1 (Nat.le_refl _)) (by omega))
  have HB1 := Keep.mk hb1
  have HX1 := Keep.mk HX
  clear hb1 HX
  go_wp2_with fail
  refine HCL.out.mono ?_
  rintro _ w2 ⟨v2, rfl, hr2, hb2⟩
  have HB2 := Keep.mk (HB1.out.trans (hb2.mono HB1.out.size))
  have HX2 := Keep.mk ((hb2.block w.heap.size (by simp)).trans HX1.out)
  have hr2' : w2.ownsRow w.heap.size 9 1 v2 p.vars.length (strCells p.vars) := ownsRow_base hr2 (by simp)
  have HR2 := Keep.mk hr2'
  clear hr2 hr2' hb2 HCL HB1 HX1
  have x2 : w2.cell? ⟨w.heap.size, 2, none⟩ = some (.slice a3 p.funcs.length c3) := by simp [World.cell?, HX2.out]
  have xl : w.heap.size < w2.heap.size := (Array.getElem?_eq_some_iff.1 HX2.out).1
  go_wp2_with fail
  clear x2 xl
  go_loopw [14, 3] (fun i s wr => ∃ k : Nat, k ≤ p.funcs.length ∧ i = .int .i64 k ∧ Keep (OwnStrs w.heap.size wr s (p.vars ++ (p.funcs.take k).flatMap fuScalars)) ∧ Keep (Below w.heap.size w wr)) (fun i _ _ => p.funcs.length - (intOf i).toNat)
  case atStart => exact ⟨0, Nat.zero_le _, rfl, ⟨by rw [List.take_zero, List.flatMap_nil, List.append_nil]; exact HR2.out⟩, HB2⟩
  case round =>
    obtain ⟨k, hk, rfl, HRr, HBr⟩ := hrel
    clear HB2 HR2 HX2
    by_cases hlt : k < p.funcs.length
    · have k0 : (0 : Int) ≤ k := by omega
      have k1 : (k : Int) < p.funcs.length := by omega
      obtain ⟨f, hfk⟩ : ∃ f, p.funcs[k]? = some f := ⟨_, List.getElem?_eq_getElem hlt⟩
      obtain ⟨b, o, cap, up, ul, ub, hv, hb, x0, x1, x2, x3, hS1, hS2, nb, hS3⟩ := H3.out.get hfk
      simp only [Value.slice.injEq, true_and] at hv
      obtain ⟨rfl, rfl⟩ := hv
      have z0 := (HBr.out.cell (p := ⟨b, o + k * 4, none⟩) hb).trans x0
      have z1 := (HBr.out.cell (p := ⟨b, o + k * 4 + 1, none⟩) hb).trans x1
      have z2 := (HBr.out.cell (p := ⟨b, o + k * 4 + 2, none⟩) hb).trans x2
      have z3 := (HBr.out.cell (p := ⟨b, o + k * 4 + 3, none⟩) hb).trans x3
      have hbl : b < wr.heap.size := Nat.lt_of_lt_of_le hb HBr.out.size
      obtain ⟨b1, d1, rfl, g1, g2, _⟩ := id hS1
      obtain ⟨b2, d2, rfl, g3, g4, _⟩ := id hS2
      obtain ⟨b3, d3, rfl, g5, g6⟩ := hS3.len
      unfold maxLen at g2 g4 g6
      have HS1 := Keep.mk hS1
      have HS2 := Keep.mk hS2
      have hmem : f ∈ p.funcs := List.mem_of_getElem? hfk
      have hfu := HF.out.fu hmem
      have HNM : Keep (f.name.size ≤ 1000000 ∧ ∀ x ∈ f.params ++ f.locals, x.size ≤ 1000000) := ⟨HF.out.names _ (.inr (.inr ⟨f, hmem, .inl rfl⟩)), fun x hx => HF.out.names _ (.inr (.inr ⟨f, hmem, .inr (List.mem_append.1 hx)⟩))⟩
      have HSTEP : Keep (∀ ys, p.vars ++ (p.funcs.take (k + 1)).flatMap fuScalars = ys ↔ (p.vars ++ (p.funcs.take k).flatMap fuScalars) ++ fuScalars f = ys) := ⟨fun ys => by rw [List.take_add_one, hfk, Option.toList_some, List.flatMap_append, List.flatMap_singleton, List.append_assoc]⟩
      have hfl : (p.vars ++ (p.funcs.take k).flatMap fuScalars).length ≤ 200000000 := by
        rw [List.length_append]
        have := flat_le (l := p.funcs) k
        omega
      clear x0 x1 x2 x3 hS1 hS2 hS3 hmem hfk
      generalize hacc : p.vars ++ (p.funcs.take k).flatMap fuScalars = acc at *
      clear hacc
      go_upto_region 5 with (fail)
      obtain ⟨Y, hY⟩ : ∃ Y, Y = wr.heap.size := ⟨_, rfl⟩
      have hbs : Below wr.heap.size wr (wr.alloc (.cells #[.string f.name, .slice b1 f.params.length d1, .slice b2 f.locals.length d2, .slice b3 f.body.length d3] 36)) := (Below.refl _ _).alloc (Nat.le_refl _) _
      have hZ : (wr.alloc (.cells #[.string f.name, .slice b1 f.params.length d1, .slice b2 f.locals.length d2, .slice b3 f.body.length d3] 36)).heap[wr.heap.size]? = some (.cells #[.string f.name, .slice b1 f.params.length d1, .slice b2 f.locals.length d2, .slice b3 f.body.length d3] 36 (0, 0)) := heap_alloc_new wr _
      have hsz : (wr.alloc (.cells #[.string f.name, .slice b1 f.params.length d1, .slice b2 f.locals.length d2, .slice b3 f.body.length d3] 36)).heap.size = Y + 1 := by rw [World.size_alloc, hY]
      have HRs : Keep (OwnStrs w.heap.size (wr.alloc (.cells #[.string f.name, .slice b1 f.params.length d1, .slice b2 f.locals.length d2, .slice b3 f.body.length d3] 36)) u3 acc) := ⟨World.ownsRow.alloc HRr.out _⟩
      have HBs := Keep.mk (HBr.out.trans (hbs.mono HBr.out.size))
      have hrlt : ∀ j, Value.ownBlock u3 = some j → j < Y := fun j hj => by rw [hY]; exact (World.ownsRow.lt HRr.out j hj).2
      have HRLT := Keep.mk hrlt
      rw [← hY] at hZ ⊢
      have HZ := Keep.mk hZ
      have hwY : w.heap.size ≤ Y := by rw [hY]; exact HBr.out.size
      clear hZ hbs z0 z1 z2 z3 hbl HRr HBr hrlt hY
      generalize (wr.alloc (.cells #[.string f.name, .slice b1 f.params.length d1, .slice b2 f.locals.length d2, .slice b3 f.body.length d3] 36)) = ws at *
      have p1 : ws.cell? ⟨Y, 1, none⟩ = some (.slice b1 f.params.length d1) := by simp [World.cell?, HZ.out]
      have p2 : ws.cell? ⟨Y, 2, none⟩ = some (.slice b2 f.locals.length d2) := by simp [World.cell?, HZ.out]
      have pl : Y < ws.heap.size := by omega
      have hba : Below ws.heap.size ws (ws.alloc (.cells #[.slice b1 f.params.length d1, .slice b2 f.locals.length d2] 22)) := (Below.refl _ _).alloc (Nat.le_refl _) _
      have hXn : (ws.alloc (.cells #[.slice b1 f.params.length d1, .slice b2 f.locals.length d2] 22)).heap[ws.heap.size]? = some (.cells #[.slice b1 f.params.length d1, .slice b2 f.locals.length d2] 22 (0, 0)) := heap_alloc_new ws _
      have HBX := Keep.mk (HBs.out.trans (hba.mono HBs.out.size))
      have HCC := Keep.mk (concat_any hXn (HS1.out.below HBX.out (Nat.le_refl _)) (HS2.out.below HBX.out (Nat.le_refl _)) (by omega) (by omega))
      have HBA := Keep.mk hba
      have HWS := Keep.mk (show ws.heap.size = Y + 1 from hsz)
      clear hXn hba hsz
      go_wp2_with fail
      refine HCC.out.mono ?_
      rintro e w4 ⟨v, rfl, hrow, hb3⟩
      have HB4' := Keep.mk (HBA.out.trans (hb3.mono HBA.out.size))
      obtain ⟨av, cv, rfl⟩ := ownsRow_slice hrow
      have HB4 := Keep.mk (HBs.out.trans (HB4'.out.mono HBs.out.size))
      have HZ4 := Keep.mk ((HB4'.out.block Y pl).trans HZ.out)
      have HA4 : Keep (OwnStrs w.heap.size w4 u3 acc) := ⟨World.ownsRow.kept HRs.out (grown_none HB4'.out) (by cases hq : Value.ownBlock u3 <;> simp)⟩
      have hbase : (ws.alloc (.cells #[.slice b1 f.params.length d1, .slice b2 f.locals.length d2] 22)).heap.size = Y + 2 := by rw [World.size_alloc, HWS.out]
      have HN4 : Keep (OwnStrs (Y + 2) w4 (.slice av (f.params ++ f.locals).length cv) (f.params ++ f.locals)) := ⟨by rw [← hbase]; exact hrow⟩
      have hnl : (f.params ++ f.locals).length ≤ 200000000 := by rw [List.length_append]; omega
      have HFS : Keep (fuScalars f = (f.params ++ f.locals).map (dotB f.name)) := ⟨rfl⟩
      clear hrow hb3 HCC HBA p1 p2 pl HRs HBs HZ HBX HB4' hbase HWS
      generalize f.params ++ f.locals = ns at *
      generalize hfs : fuScalars f = gs at *
      clear hfs
      generalize hf1 : f.params.length = fl1 at *
      generalize hf2 : f.locals.length = fl2 at *
      clear hf1 hf2
      have HAR : Keep ((∀ j, Value.ownBlock u3 = some j → j < Y)) := HRLT
      go_wp2_with fail
      clear HS1 HS2 hfu
      generalize wr = wo at *
      go_loopw [25, 3] (fun i s wr => ∃ m : Nat, m ≤ ns.length ∧ i = .int .i64 m ∧ Keep (OwnStrs w.heap.size wr s (acc ++ (ns.take m).map (dotB f.name))) ∧ Keep (Below w.heap.size w wr) ∧ Keep (wr.heap[Y]? = some (.cells #[.string f.name, .slice b1 fl1 d1, .slice b2 fl2 d2, .slice b3 f.body.length d3] 36 (0, 0))) ∧
        Keep (OwnStrs (Y + 2) wr (.slice av ns.length cv) ns) ∧ Keep (∀ j, Value.ownBlock s = some j → j ≠ Y ∧ (av = none ∨ ∀ a, av = some a → j ≠ a.block))) (fun i _ _ => ns.length - (intOf i).toNat)
      case atStart => exact ⟨0, Nat.zero_le _, rfl, ⟨by rw [List.take_zero, List.map_nil, List.append_nil]; exact HA4.out⟩, HB4, HZ4, HN4, ⟨fun j hj => ⟨by have h1 := HRLT.out j hj; omega, .inr fun a ha => by
        have h1 := HRLT.out j hj
        have h2 := (World.ownsRow.lt HN4.out a.block (by rw [ha]; rfl)).1
        omega⟩⟩⟩
      case round =>
        obtain ⟨m, hm, rfl, HRt, HBt, HZt, HNt, HDt⟩ := hrel
        clear HA4 HB4 HZ4 HN4 HAR
        by_cases hlm : m < ns.length
        · have m0 : (0 : Int) ≤ m := by omega
          have m1 : (m : Int) < ns.length := by omega
          obtain ⟨x, hxm⟩ : ∃ x, ns[m]? = some x := ⟨_, List.getElem?_eq_getElem hlm⟩
          obtain ⟨b, o, rfl, hb, hc0⟩ : ∃ b o, av = some ⟨b, o, none⟩ ∧ b < wr.heap.size ∧ wr.cell? ⟨b, o + m, none⟩ = some (.string x) := by
            obtain ⟨_, _, hv, _, _, hcs⟩ := HNt.out.strs
            cases hv
            rcases hcs with h | ⟨b, o, h1, h2, h3⟩
            · rw [h] at hlm; simp at hlm
            · exact ⟨b, o, h1, h2, h3 m x hxm⟩
          have q0 : wr.cell? ⟨Y, 0, none⟩ = some (.string f.name) := by simp [World.cell?, HZt.out]
          have ql : Y < wr.heap.size := (Array.getElem?_eq_some_iff.1 HZt.out).1
          have hST2 : Keep (acc ++ (ns.take (m + 1)).map (dotB f.name) = (acc ++ (ns.take m).map (dotB f.name)) ++ [dotB f.name x]) := ⟨by rw [List.take_add_one, hxm]; simp⟩
          have hal : (acc ++ (ns.take m).map (dotB f.name)).length ≤ 500000000 := by rw [List.length_append, List.length_map, List.length_take]; omega
          have hs1 : ¬ 9223372036854775807 < f.name.size + 1 := by have := HNM.out.1; omega
          have hs2 : ¬ 9223372036854775807 < f.name.size + 1 + x.size := by have := HNM.out.1; have := HNM.out.2 x (List.mem_of_getElem? hxm); omega
          clear hxm
          generalize acc ++ (ns.take m).map (dotB f.name) = cc at *
          go_upto_region 8 with (fail)
          have hz := HBt.out.size
          have hY9 : Y + 2 ≤ wr.heap.size := by
            have h1 := (World.ownsRow.lt HNt.out b rfl)
            omega
          have HNE : Keep (∀ j, Value.ownBlock u3 = some j → j ≠ b) := ⟨fun j hj => by
            rcases (HDt.out j hj).2 with h | h
            · cases h
            · exact h _ rfl⟩
          have HNE2 : Keep (∀ j, Value.ownBlock u3 = some j → j ≠ Y) := ⟨fun j hj => (HDt.out j hj).1⟩
          have hBW : Below wr.heap.size wr (wr.alloc (.cells #[.string (dotB f.name x)] 9)) := (Below.refl _ _).alloc (Nat.le_refl _) _
          have hBA : Below w.heap.size w (wr.alloc (.cells #[.string (dotB f.name x)] 9)) := HBt.out.alloc hz _
          go_wp2_with (at_builtin; go_must (refine wpList_append_slc rfl _ _ 22 rfl w.heap.size 9 i0 (.string ⟨#[]⟩) 1 16 Try.underlying22 hi hz0 hz1 hz2 rfl (by decide) _ cc.length (strCells cc) rfl (World.ownsRow.alloc HRt.out _) _ 1 [.string (dotB f.name x)] rfl (Slc.made (t := 9) [.string (dotB f.name x)] (by decide) rfl) (by simp [Value.oneCell']) (by unfold maxLen; omega) (by omega) (by simp; omega) ?_); intro v5 w5 hown5 hg5 hv5; have H5 := Keep.mk (And.intro hown5 (And.intro hg5 hv5)); clear hown5 hg5 hv5)
          refine ⟨⟨m + 1, by omega, by go_num, ⟨?_⟩, ⟨?_⟩, ⟨?_⟩, ⟨?_⟩, ⟨?_⟩⟩, by simp [intOf]; omega⟩
          · rw [hST2.out]
            unfold OwnStrs
            rw [List.length_append, strCells, List.map_append]
            exact H5.out.1
          · exact (hBA.trans (Below.refl _ _)).grown H5.out.2.1 (by simp; omega) (fun j hj => (World.ownsRow.lt HRt.out j hj).1)
          · refine (H5.out.2.1.block Y (by simp; omega) (fun e => ?_)).trans ?_
            · have := HNE2.out Y e.symm
              exact this rfl
            · exact (hBW.block Y (Array.getElem?_eq_some_iff.1 HZt.out).1).trans HZt.out
          · refine World.ownsRow.kept (World.ownsRow.alloc HNt.out _) H5.out.2.1 (.inr (fun e => ?_))
            exact HNE.out b e.symm rfl
          · intro j hj
            have hlt := (Array.getElem?_eq_some_iff.1 HZt.out).1
            have hlt2 := (World.ownsRow.lt HNt.out b rfl).2
            rcases H5.out.2.2 with h | h
            · rw [h] at hj
              exact ⟨HNE2.out j hj, .inr fun a ha => by cases ha; exact HNE.out j hj⟩
            · rw [h] at hj
              cases hj
              exact ⟨by simp; omega, .inr fun a ha => by cases ha; simp; omega⟩
        · have hma : m = ns.length := by omega
          subst hma
          rw [List.take_length] at HRt
          go_wp2_with fail
          go_roundw
          case rel => exact ⟨k + 1, by omega, by go_num, ⟨by rw [(HSTEP.out _).2 rfl, HFS.out]; exact HRt.out⟩, HBt⟩
          case measure => simp [intOf]; omega
    · have hka : k = p.funcs.length := by omega
      subst hka
      rw [List.take_length] at HRr
      go_wp2_with fail
      go_ret
      exact ⟨_, rfl, HRr.out, HBr.out⟩
end Go.Proofs.Ytgimdbflpdmlmaa
