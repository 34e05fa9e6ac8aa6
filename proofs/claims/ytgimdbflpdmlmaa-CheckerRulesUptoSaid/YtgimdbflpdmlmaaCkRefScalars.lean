/- The reference's Scalars, walked: the same list as the program's. Condition: bounds. -/
import Derived.Test.YtgimdbflpdmlmaaCkSizeP
namespace Go.Proofs.Ytgimdbflpdmlmaa
set_option maxRecDepth 100000
open Go.RowKit Go.Shelf Go.Proofs.Ytgimdbflpdmlmaa.Ck

set_option maxHeartbeats 16000000 in
theorem refScalars_any {w : World} {vs rs fs : Value} {p : Pr} (h : PrAt w vs rs fs p) (hfit : Fits p) :
    Calls Try.prog 24 #[.agg #[vs, rs, fs]] w fun e w' => ∃ v, e = .returned v ∧ OwnStrs w.heap.size w' v (scalarsL p) ∧ Below w.heap.size w w' := by
  obtain ⟨h1, h2, h3⟩ := h
  obtain ⟨a1, c1, rfl, k1, k2⟩ := h1.len
  obtain ⟨a2, c2, rfl, k3, k4⟩ := h2.len
  obtain ⟨a3, c3, rfl, k5, k6⟩ := h3.len
  unfold maxLen at k2 k4 k6
  have H1 := Keep.mk h1
  have H3 := Keep.mk h3
  have HF := Keep.mk hfit
  have HT := hfit.total
  clear h1 h2 h3 hfit
  obtain ⟨i0, hi, hz0, hz1, hz2⟩ := info_parts Try.infoStrS
  go_enter Try.func24, Try.ntmps24
  obtain ⟨w1, hw1⟩ : ∃ w1, w1 = (w.alloc (.cells #[.slice a1 p.vars.length c1, .slice a2 p.arrays.length c2, .slice a3 p.funcs.length c3] 26)) := ⟨_, rfl⟩
  have hb1 : Below w.heap.size w w1 := by rw [hw1]; exact (Below.refl _ _).alloc (Nat.le_refl _) _
  have HX : w1.heap[w.heap.size]? = some (.cells #[.slice a1 p.vars.length c1, .slice a2 p.arrays.length c2, .slice a3 p.funcs.length c3] 26 (0, 0)) := by rw [hw1]; exact heap_alloc_new w _
  have HB1 := Keep.mk hb1
  have HX1 := Keep.mk HX
  have hs1 : w1.heap.size = w.heap.size + 1 := by rw [hw1, World.size_alloc]
  have HW1 := Keep.mk hw1
  clear hb1 HX hw1
  go_upto_region 1 with (fail)
  rw [← HW1.out]
  clear HW1
  have HSZ := Keep.mk hs1
  have hA0 : (w1.alloc (.cells #[] 9)).ownsRow (w.heap.size + 1) 9 1 (.slice (some ⟨w1.heap.size, 0, none⟩) 0 0) 0 [] := World.ownsRow_made (base := w.heap.size + 1) (e := 9) (size := 1) w1 #[] 0 (by omega) (by decide) rfl
  have HA0 := Keep.mk hA0
  have hba : Below w.heap.size w (w1.alloc (.cells #[] 9)) := HB1.out.alloc (by omega) _
  have HBA := Keep.mk hba
  have HXA := Keep.mk ((((Below.refl w1.heap.size w1).alloc (Nat.le_refl _) (.cells #[] 9)).block w.heap.size (by omega)).trans HX1.out)
  have x0 : w1.cell? ⟨w.heap.size, 0, none⟩ = some (.slice a1 p.vars.length c1) := by simp [World.cell?, HX1.out]
  have xl : w.heap.size < w1.heap.size := by omega
  have y0 : (w1.alloc (.cells #[] 9)).cell? ⟨w.heap.size, 0, none⟩ = some (.slice a1 p.vars.length c1) := by simp [World.cell?, HXA.out]
  clear hA0 hba hs1
  have hvl : p.vars.length ≤ 100000000 := by omega
  go_upto_region 2 with (at_builtin; go_must (refine wpList_append_slc rfl _ _ 22 rfl (w.heap.size + 1) 9 i0 (.string ⟨#[]⟩) 1 16 Try.underlying22 hi hz0 hz1 hz2 rfl (by decide) _ 0 [] rfl HA0.out _ p.vars.length (strCells p.vars) rfl (H1.out.slc.below HBA.out (Nat.le_refl _)) (strCells_one _) (by unfold maxLen; omega) (by omega) (by have := HSZ.out; simp; omega) ?_); intro v2 w2 hown2 hg2 hv2; obtain ⟨r2a, r2c, rfl⟩ := ownsRow_slice hown2; have H2 := Keep.mk (And.intro hown2 hg2); clear hown2 hg2 hv2)
  have hrow2 : OwnStrs (w.heap.size + 1) w2 (.slice r2a p.vars.length r2c) p.vars := by
    unfold OwnStrs
    simpa using H2.out.1
  have hbel2 := below_append HBA.out HBA.out.size (ownsRow_base HA0.out (by omega)) (Nat.le_refl _) H2.out.2
  have hx2 := (H2.out.2.block w.heap.size (by have := HSZ.out; simp; omega) (fun e => by have := (World.ownsRow.lt HA0.out _ e.symm).1; omega)).trans HXA.out
  have HR2 := Keep.mk hrow2
  have HB2 := Keep.mk hbel2
  have HX2 := Keep.mk hx2
  clear hrow2 hbel2 hx2 H2 HA0 HBA HXA x0 xl y0 HB1 HX1
  have x2 : w2.cell? ⟨w.heap.size, 2, none⟩ = some (.slice a3 p.funcs.length c3) := by simp [World.cell?, HX2.out]
  have xl : w.heap.size < w2.heap.size := (Array.getElem?_eq_some_iff.1 HX2.out).1
  go_wp2_with fail
  clear x2 xl HSZ
  go_loopw [17, 3] (fun i s wr => ∃ k : Nat, k ≤ p.funcs.length ∧ i = .int .i64 k ∧ Keep (OwnStrs (w.heap.size + 1) wr s (p.vars ++ (p.funcs.take k).flatMap fuScalars)) ∧ Keep (Below w.heap.size w wr) ∧ w.heap.size < wr.heap.size) (fun i _ _ => p.funcs.length - (intOf i).toNat)
  case atStart => exact ⟨0, Nat.zero_le _, rfl, ⟨by rw [List.take_zero, List.flatMap_nil, List.append_nil]; exact HR2.out⟩, HB2, (Array.getElem?_eq_some_iff.1 HX2.out).1⟩
  case round =>
    obtain ⟨k, hk, rfl, HRr, HBr, hwr⟩ := hrel
    clear HB2 HR2 HX2
    by_cases hlt : k < p.funcs.length
    · have k0 : (0 : Int) ≤ k := by omega
      have k1 : (k : Int) < p.funcs.length := by omega
      obtain ⟨f, hfk⟩ : ∃ f, p.funcs[k]? = some f := ⟨_, List.getElem?_eq_getElem hlt⟩
      obtain ⟨b, o, cap, up, ul, ub, hv, hb, x0, x1, x2, x3, hS1, hS2, nb, hS3⟩ := H3.out.get hfk
      simp only [Value.slice.injEq, true_and] at hv
      obtain ⟨rfl, rfl⟩ := hv
      have z0 := (HBr.out.cell (p := ⟨b, o + k * 4, none⟩) hb).trans x0
      have z1 := (HBr.out.cell (p := ⟨b, o + k * 4 + 1, none⟩) hb).trans x1
      have z2 := (HBr.out.cell (p := ⟨b, o + k * 4 + 2, none⟩) hb).trans x2
      have z3 := (HBr.out.cell (p := ⟨b, o + k * 4 + 3, none⟩) hb).trans x3
      have hbl : b < wr.heap.size := Nat.lt_of_lt_of_le hb HBr.out.size
      obtain ⟨b1, d1, rfl, g1, g2, _⟩ := id hS1
      obtain ⟨b2, d2, rfl, g3, g4, _⟩ := id hS2
      obtain ⟨b3, d3, rfl, g5, g6⟩ := hS3.len
      unfold maxLen at g2 g4 g6
      have HS1 := Keep.mk hS1
      have HS2 := Keep.mk hS2
      have hmem : f ∈ p.funcs := List.mem_of_getElem? hfk
      have hfu := HF.out.fu hmem
      have HNM : Keep (f.name.size ≤ 1000000 ∧ (∀ x ∈ f.params, x.size ≤ 1000000) ∧ ∀ x ∈ f.locals, x.size ≤ 1000000) := ⟨HF.out.names _ (.inr (.inr ⟨f, hmem, .inl rfl⟩)), fun x hx => HF.out.names _ (.inr (.inr ⟨f, hmem, .inr (.inl hx)⟩)), fun x hx => HF.out.names _ (.inr (.inr ⟨f, hmem, .inr (.inr hx)⟩))⟩
      have HSTEP : Keep (p.vars ++ (p.funcs.take (k + 1)).flatMap fuScalars = (p.vars ++ (p.funcs.take k).flatMap fuScalars) ++ f.params.map (dotB f.name) ++ f.locals.map (dotB f.name)) := ⟨by rw [List.take_add_one, hfk, Option.toList_some, List.flatMap_append, List.flatMap_singleton, fuScalars, List.map_append]; simp only [List.append_assoc]⟩
      have hfl : (p.vars ++ (p.funcs.take k).flatMap fuScalars).length ≤ 200000000 := by
        rw [List.length_append]
        have := flat_le (l := p.funcs) k
        omega
      clear x0 x1 x2 x3 hS1 hS2 hS3 hmem hfk
      generalize p.vars ++ (p.funcs.take k).flatMap fuScalars = acc at *
      obtain ⟨u3a, u3c, rfl⟩ := ownsRow_slice HRr.out
      go_upto_region 5 with (fail)
      obtain ⟨Y, hY⟩ : ∃ Y, Y = wr.heap.size := ⟨_, rfl⟩
      have hbs : Below wr.heap.size wr (wr.alloc (.cells #[.string f.name, .slice b1 f.params.length d1, .slice b2 f.locals.length d2, .slice b3 f.body.length d3] 36)) := (Below.refl _ _).alloc (Nat.le_refl _) _
      have hZ : (wr.alloc (.cells #[.string f.name, .slice b1 f.params.length d1, .slice b2 f.locals.length d2, .slice b3 f.body.length d3] 36)).heap[wr.heap.size]? = some (.cells #[.string f.name, .slice b1 f.params.length d1, .slice b2 f.locals.length d2, .slice b3 f.body.length d3] 36 (0, 0)) := heap_alloc_new wr _
      have HRs : Keep (OwnStrs (w.heap.size + 1) (wr.alloc (.cells #[.string f.name, .slice b1 f.params.length d1, .slice b2 f.locals.length d2, .slice b3 f.body.length d3] 36)) (.slice u3a acc.length u3c) acc) := ⟨World.ownsRow.alloc HRr.out _⟩
      have HBs := Keep.mk (HBr.out.trans (hbs.mono HBr.out.size))
      have HRLT : Keep (∀ j, Value.ownBlock (.slice u3a acc.length u3c) = some j → j ≠ Y) := ⟨fun j hj => by have := (World.ownsRow.lt HRr.out j hj).2; omega⟩
      rw [← hY] at hZ ⊢
      have HZ := Keep.mk hZ
      have hwY : w.heap.size < Y := by rw [hY]; exact hwr
      clear hZ hbs z0 z1 z2 z3 hbl HRr HBr hwr hY
      generalize (wr.alloc (.cells #[.string f.name, .slice b1 f.params.length d1, .slice b2 f.locals.length d2, .slice b3 f.body.length d3] 36)) = ws at *
      have p1 : ws.cell? ⟨Y, 1, none⟩ = some (.slice b1 f.params.length d1) := by simp [World.cell?, HZ.out]
      have pl : Y < ws.heap.size := (Array.getElem?_eq_some_iff.1 HZ.out).1
      generalize wr = wo at *
      go_wp2_with fail
      clear p1 pl
      go_loopw [24, 3] (fun i s wr => ∃ m : Nat, m ≤ f.params.length ∧ i = .int .i64 m ∧ Keep (OwnStrs (w.heap.size + 1) wr s (acc ++ (f.params.take m).map (dotB f.name))) ∧ Keep (Below w.heap.size w wr) ∧ Keep (wr.heap[Y]? = some (.cells #[.string f.name, .slice b1 f.params.length d1, .slice b2 f.locals.length d2, .slice b3 f.body.length d3] 36 (0, 0))) ∧
        Keep (∀ j, Value.ownBlock s = some j → j ≠ Y)) (fun i _ _ => f.params.length - (intOf i).toNat)
      case atStart => exact ⟨0, Nat.zero_le _, rfl, ⟨by rw [List.take_zero, List.map_nil, List.append_nil]; exact HRs.out⟩, HBs, HZ, HRLT⟩
      case round =>
        obtain ⟨m, hm, rfl, HRt, HBt, HZt, HDt⟩ := hrel
        clear HRs HBs HZ HRLT
        obtain ⟨ca, cc, rfl⟩ := ownsRow_slice HRt.out
        by_cases hlm : m < f.params.length
        · have m0 : (0 : Int) ≤ m := by omega
          have m1 : (m : Int) < f.params.length := by omega
          obtain ⟨x, hxm⟩ : ∃ x, f.params[m]? = some x := ⟨_, List.getElem?_eq_getElem hlm⟩
          obtain ⟨b', o', cap', hv', hb', hc0⟩ := HS1.out.get hxm
          simp only [Value.slice.injEq, true_and] at hv'
          obtain ⟨rfl, rfl⟩ := hv'
          have hc0 := (HBt.out.cell (p := ⟨b', o' + m, none⟩) hb').trans hc0
          have hbl' : b' < wr.heap.size := Nat.lt_of_lt_of_le hb' HBt.out.size
          have q0 : wr.cell? ⟨Y, 0, none⟩ = some (.string f.name) := by simp [World.cell?, HZt.out]
          have ql : Y < wr.heap.size := (Array.getElem?_eq_some_iff.1 HZt.out).1
          have hST2 : Keep (acc ++ (f.params.take (m + 1)).map (dotB f.name) = (acc ++ (f.params.take m).map (dotB f.name)) ++ [dotB f.name x]) := ⟨by rw [List.take_add_one, hxm]; simp⟩
          have hal : (acc ++ (f.params.take m).map (dotB f.name)).length ≤ 500000000 := by rw [List.length_append, List.length_map, List.length_take]; omega
          have hs1 : ¬ 9223372036854775807 < f.name.size + 1 := by have := HNM.out.1; omega
          have hs2 : ¬ 9223372036854775807 < f.name.size + 1 + x.size := by have := HNM.out.1; have := HNM.out.2.1 x (List.mem_of_getElem? hxm); omega
          clear hxm
          generalize acc ++ (f.params.take m).map (dotB f.name) = cc' at *
          go_upto_region 8 with (fail)
          have hz := HBt.out.size
          have hBW : Below wr.heap.size wr (wr.alloc (.cells #[.string (dotB f.name x)] 9)) := (Below.refl _ _).alloc (Nat.le_refl _) _
          have hBA : Below w.heap.size w (wr.alloc (.cells #[.string (dotB f.name x)] 9)) := HBt.out.alloc hz _
          go_upto_region 9 with (at_builtin; go_must (refine wpList_append_slc rfl _ _ 22 rfl (w.heap.size + 1) 9 i0 (.string ⟨#[]⟩) 1 16 Try.underlying22 hi hz0 hz1 hz2 rfl (by decide) _ cc'.length (strCells cc') rfl (World.ownsRow.alloc HRt.out _) _ 1 [.string (dotB f.name x)] rfl (Slc.made (t := 9) [.string (dotB f.name x)] (by decide) rfl) (by simp [Value.oneCell']) (by unfold maxLen; omega) (by omega) (by simp; omega) ?_); intro v5 w5 hown5 hg5 hv5; have H5 := Keep.mk (And.intro hown5 (And.intro hg5 hv5)); clear hown5 hg5 hv5)
          have e1 : Keep (OwnStrs (w.heap.size + 1) w5 v5 (cc' ++ [dotB f.name x])) := ⟨by
            unfold OwnStrs
            rw [List.length_append, strCells_append]
            exact H5.out.1⟩
          have e2 := Keep.mk (below_append hBA (by simp; omega) (ownsRow_base (World.ownsRow.alloc HRt.out _) (Nat.le_succ w.heap.size)) (Nat.le_refl _) H5.out.2.1)
          have e3 : Keep (w5.heap[Y]? = some (.cells #[.string f.name, .slice (some ⟨b', o', none⟩) f.params.length d1, .slice b2 f.locals.length d2, .slice b3 f.body.length d3] 36 (0, 0))) := ⟨(H5.out.2.1.block Y (by simp; omega) (fun e => HDt.out Y e.symm rfl)).trans ((hBW.block Y ql).trans HZt.out)⟩
          have e4 : Keep (∀ j, Value.ownBlock v5 = some j → j ≠ Y) := ⟨fun j hj => by
            rcases H5.out.2.2 with h | h
            · rw [h] at hj; exact HDt.out j hj
            · rw [h] at hj; cases hj; simp; omega⟩
          clear hBW hBA H5 hz q0 ql hc0
          go_wp2_with fail
          go_roundw
          case rel => exact ⟨m + 1, by omega, by go_num, by rw [hST2.out]; exact e1, e2, e3, e4⟩
          case measure => simp [intOf]; omega
        · have hma : m = f.params.length := by omega
          subst hma
          rw [List.take_length] at HRt HDt ⊢
          have p2 : wr.cell? ⟨Y, 2, none⟩ = some (.slice b2 f.locals.length d2) := by simp [World.cell?, HZt.out]
          have pl : Y < wr.heap.size := (Array.getElem?_eq_some_iff.1 HZt.out).1
          have hacd : (acc ++ f.params.map (dotB f.name)).length ≤ 300000000 := by rw [List.length_append, List.length_map]; omega
          clear hlm hm
          generalize acc ++ f.params.map (dotB f.name) = acd at *
          generalize hfp : f.params.length = fpl at *
          clear hfp
          generalize wr = wo2 at *
          go_wp2_with fail
          clear p2 pl
          go_loopw [40, 3] (fun i s wr => ∃ m : Nat, m ≤ f.locals.length ∧ i = .int .i64 m ∧ Keep (OwnStrs (w.heap.size + 1) wr s (acd ++ (f.locals.take m).map (dotB f.name))) ∧ Keep (Below w.heap.size w wr) ∧ Keep (wr.heap[Y]? = some (.cells #[.string f.name, .slice b1 fpl d1, .slice b2 f.locals.length d2, .slice b3 f.body.length d3] 36 (0, 0))) ∧
            Keep (∀ j, Value.ownBlock s = some j → j ≠ Y)) (fun i _ _ => f.locals.length - (intOf i).toNat)
          case atStart => exact ⟨0, Nat.zero_le _, rfl, ⟨by rw [List.take_zero, List.map_nil, List.append_nil]; exact HRt.out⟩, HBt, HZt, HDt⟩
          case round =>
            clear HRt HBt HZt HDt
            obtain ⟨m, hm, rfl, HRt, HBt, HZt, HDt⟩ := hrel
            obtain ⟨ca, cc, rfl⟩ := ownsRow_slice HRt.out
            by_cases hlm : m < f.locals.length
            · have m0 : (0 : Int) ≤ m := by omega
              have m1 : (m : Int) < f.locals.length := by omega
              obtain ⟨x, hxm⟩ : ∃ x, f.locals[m]? = some x := ⟨_, List.getElem?_eq_getElem hlm⟩
              obtain ⟨b', o', cap', hv', hb', hc0⟩ := HS2.out.get hxm
              simp only [Value.slice.injEq, true_and] at hv'
              obtain ⟨rfl, rfl⟩ := hv'
              have hc0 := (HBt.out.cell (p := ⟨b', o' + m, none⟩) hb').trans hc0
              have hbl' : b' < wr.heap.size := Nat.lt_of_lt_of_le hb' HBt.out.size
              have q0 : wr.cell? ⟨Y, 0, none⟩ = some (.string f.name) := by simp [World.cell?, HZt.out]
              have ql : Y < wr.heap.size := (Array.getElem?_eq_some_iff.1 HZt.out).1
              have hST2 : Keep (acd ++ (f.locals.take (m + 1)).map (dotB f.name) = (acd ++ (f.locals.take m).map (dotB f.name)) ++ [dotB f.name x]) := ⟨by rw [List.take_add_one, hxm]; simp⟩
              have hal : (acd ++ (f.locals.take m).map (dotB f.name)).length ≤ 500000000 := by rw [List.length_append, List.length_map, List.length_take]; omega
              have hs1 : ¬ 9223372036854775807 < f.name.size + 1 := by have := HNM.out.1; omega
              have hs2 : ¬ 9223372036854775807 < f.name.size + 1 + x.size := by have := HNM.out.1; have := HNM.out.2.2 x (List.mem_of_getElem? hxm); omega
              clear hxm
              generalize acd ++ (f.locals.take m).map (dotB f.name) = cc' at *
              go_upto_region 13 with (fail)
              have hz := HBt.out.size
              have hBW : Below wr.heap.size wr (wr.alloc (.cells #[.string (dotB f.name x)] 9)) := (Below.refl _ _).alloc (Nat.le_refl _) _
              have hBA : Below w.heap.size w (wr.alloc (.cells #[.string (dotB f.name x)] 9)) := HBt.out.alloc hz _
              go_upto_region 14 with (at_builtin; go_must (refine wpList_append_slc rfl _ _ 22 rfl (w.heap.size + 1) 9 i0 (.string ⟨#[]⟩) 1 16 Try.underlying22 hi hz0 hz1 hz2 rfl (by decide) _ cc'.length (strCells cc') rfl (World.ownsRow.alloc HRt.out _) _ 1 [.string (dotB f.name x)] rfl (Slc.made (t := 9) [.string (dotB f.name x)] (by decide) rfl) (by simp [Value.oneCell']) (by unfold maxLen; omega) (by omega) (by simp; omega) ?_); intro v5 w5 hown5 hg5 hv5; have H5 := Keep.mk (And.intro hown5 (And.intro hg5 hv5)); clear hown5 hg5 hv5)
              have e1 : Keep (OwnStrs (w.heap.size + 1) w5 v5 (cc' ++ [dotB f.name x])) := ⟨by
                unfold OwnStrs
                rw [List.length_append, strCells_append]
                exact H5.out.1⟩
              have e2 := Keep.mk (below_append hBA (by simp; omega) (ownsRow_base (World.ownsRow.alloc HRt.out _) (Nat.le_succ w.heap.size)) (Nat.le_refl _) H5.out.2.1)
              have e3 : Keep (w5.heap[Y]? = some (.cells #[.string f.name, .slice b1 fpl d1, .slice (some ⟨b', o', none⟩) f.locals.length d2, .slice b3 f.body.length d3] 36 (0, 0))) := ⟨(H5.out.2.1.block Y (by simp; omega) (fun e => HDt.out Y e.symm rfl)).trans ((hBW.block Y ql).trans HZt.out)⟩
              have e4 : Keep (∀ j, Value.ownBlock v5 = some j → j ≠ Y) := ⟨fun j hj => by
                rcases H5.out.2.2 with h | h
                · rw [h] at hj; exact HDt.out j hj
                · rw [h] at hj; cases hj; simp; omega⟩
              clear hBW hBA H5 hz q0 ql hc0
              go_wp2_with fail
              go_roundw
              case rel => exact ⟨m + 1, by omega, by go_num, by rw [hST2.out]; exact e1, e2, e3, e4⟩
              case measure => simp [intOf]; omega
            · have hma : m = f.locals.length := by omega
              subst hma
              rw [List.take_length] at HRt HDt ⊢
              have hYl := (Array.getElem?_eq_some_iff.1 HZt.out).1
              have hwl : w.heap.size < wr.heap.size := by omega
              clear hYl
              go_wp2_with fail
              go_roundw
              case rel => exact ⟨k + 1, by omega, by go_num, by rw [HSTEP.out]; exact HRt, HBt, hwl⟩
              case measure => simp [intOf]; omega
    · have hka : k = p.funcs.length := by omega
      subst hka
      rw [List.take_length] at HRr
      go_wp2_with fail
      go_ret
      exact ⟨_, rfl, ownsRow_base HRr.out (Nat.le_succ _), HBr.out⟩
end Go.Proofs.Ytgimdbflpdmlmaa
