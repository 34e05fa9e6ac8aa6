/- The checker's function. Condition: bounds. -/
import Derived.Test.YtgimdbflpdmlmaaCkConcat
namespace Go.Proofs.Ytgimdbflpdmlmaa
set_option maxRecDepth 100000
open Go.RowKit Go.Shelf Go.Proofs.Ytgimdbflpdmlmaa.Ck

theorem ownC_append (g : List BA) : ∀ (l m own : List BA), ownC g own (l ++ m) = (ownC g own l).bind fun o => ownC g o m
  | [], m, own => rfl
  | x :: l, m, own => by
    rw [List.cons_append, ownC, ownC]
    cases req (Ck.isName x) x 7 with
    | bad v => rfl
    | ok u =>
      simp only [Res.bind_ok]
      cases req (!decide (x ∈ g) && !decide (x ∈ own)) x 8 with
      | bad v => rfl
      | ok u => simp only [Res.bind_ok]; exact ownC_append g l m _
theorem ownC_step {g l own : List BA} {x : BA} {k : Nat} (h : ownC g [] (l.take k) = .ok own) (hx : l[k]? = some x) :
    ownC g [] (l.take (k + 1)) = ((req (Ck.isName x) x 7).bind fun _ => (req (!decide (x ∈ g) && !decide (x ∈ own)) x 8).bind fun _ => .ok (own ++ [x])) ∧
    ∀ v, ((req (Ck.isName x) x 7).bind fun _ => (req (!decide (x ∈ g) && !decide (x ∈ own)) x 8).bind fun _ => Res.ok (own ++ [x])) = .bad v → ownC g [] l = .bad v := by
  have h1 : ownC g [] (l.take (k + 1)) = ((req (Ck.isName x) x 7).bind fun _ => (req (!decide (x ∈ g) && !decide (x ∈ own)) x 8).bind fun _ => .ok (own ++ [x])) := by
    rw [List.take_add_one, hx]
    show ownC g [] (l.take k ++ [x]) = _
    rw [ownC_append, h]
    rfl
  refine ⟨h1, fun v hv => ?_⟩
  rw [← List.take_append_drop (k + 1) l, ownC_append, h1, hv]
  rfl
section
variable {w0 wk w w' : World} {B G V A F O : Nat} {c : Cx} {d : Nat}
theorem CkIn.putO (h : CkIn w B G V A F O c d) (hG : O ≠ G) (hV : O ≠ V) (hA : O ≠ A) (hF : O ≠ F) {m : List (ByteArray × Value)} {x : ByteArray} (hm : ∀ k, lookL k m = if k ∈ c.own then some (.bool true) else none) (h1 : MapIs SK w' O (putL x (.bool true) m)) (h2 : w.grownBy w' (some O)) :
    CkIn w' B G V A F O { c with own := c.own ++ [x] } d := by
  have e : ∀ {a b : Nat}, b ≠ a → some a ≠ some b := fun h e => h (Option.some.inj e).symm
  exact ⟨(h2.block B h.lt (e (h.o.ne_box h.box))).trans h.box, h.g.kept h2 (e hG), h.v.kept h2 (e hV), h.a.kept h2 (e hA), h.f.kept h2 (e hF), SetL.put hm h1⟩
/-- Back from a function to the program. -/
theorem CkIn.prst {c0 : Cx} (h : CkIn w' B G V A F O c d) (h0 : PrSt w0 wk w B G V A F c0) (hl : Lw w0 wk w' B G V A F) : PrSt w0 wk w' B G V A F c :=
  ⟨hl, h0.hB, h0.hG, h0.hV, h0.hA, h0.hF, ⟨_, _, _, h.box⟩, h.g, h.v, h.a, h.f, h0.dis⟩
theorem SumL.put {M : Nat} {l : List (ByteArray × Sm)} {m : List (ByteArray × Value)} {x : ByteArray} {s : Sm} (hm : ∀ k, lookL k m = (lookF k l).map smA) (h : MapIs SK w' M (putL x (smA s) m)) : SumL w' M ((x, s) :: l) := by
  refine ⟨_, h, fun k => ?_⟩
  rw [look_put, hm, lookF]
  by_cases hk : k = x
  · rw [if_pos hk, if_pos hk]; rfl
  · rw [if_neg hk, if_neg hk]
/-- The box has been turned to a new function. -/
theorem fn_start (h : PrSt w0 wk w B G V A F c) (name : ByteArray) (cs : Array Value) (t : TypeId) (W : World)
    (hW : W = ((((w.setCell ⟨B, 4, none⟩ (.string name)).setCell ⟨B, 5, none⟩ (.map (some (w.heap.size + 1)))).setCell ⟨B, 6, none⟩ (.int .i64 1)).alloc (.cells cs t)).alloc (.map #[] 0)) :
    CkIn W B G V A F (w.heap.size + 1) { c with name := name, own := [] } 1 ∧ W.heap[w.heap.size]? = some (.cells cs t (0, 0)) ∧ Lw w0 wk W B G V A F ∧ W.heap.size = w.heap.size + 2 := by
  obtain ⟨nm, ow, dp, hx⟩ := h.box
  have e1 := heap_setCell_same w B 4 _ _ (.string name) hx
  have e2 := heap_setCell_same _ B 5 _ _ (.map (some (w.heap.size + 1))) e1
  have e3 := heap_setCell_same _ B 6 _ _ (.int .i64 1) e2
  have g3 := grown_trans (grown_trans (grown_setCell w ⟨B, 4, none⟩ (.string name)) (grown_setCell _ ⟨B, 5, none⟩ (.map (some (w.heap.size + 1))))) (grown_setCell _ ⟨B, 6, none⟩ (.int .i64 1))
  have hsz : (((w.setCell ⟨B, 4, none⟩ (.string name)).setCell ⟨B, 5, none⟩ (.map (some (w.heap.size + 1)))).setCell ⟨B, 6, none⟩ (.int .i64 1)).heap.size = w.heap.size := by simp [World.setCell]
  generalize (((w.setCell ⟨B, 4, none⟩ (.string name)).setCell ⟨B, 5, none⟩ (.map (some (w.heap.size + 1)))).setCell ⟨B, 6, none⟩ (.int .i64 1)) = ws at *
  have hb : Below ws.heap.size ws W := by rw [hW]; exact ((Below.refl _ _).alloc (Nat.le_refl _) _).alloc (by simp) _
  have hne : ∀ {M : Nat}, M ≠ B → some M ≠ some B := fun h e => h (Option.some.inj e)
  have hz : W.heap.size = w.heap.size + 2 := by rw [hW]; simp [hsz]
  have hm : MapIs SK W (w.heap.size + 1) [] := by
    have := MapIs.made SK (ws.alloc (.cells cs t))
    rw [World.size_alloc, hsz] at this
    rw [hW]; exact this
  have hlow := h.low.grown g3 h.hB (by simp)
  refine ⟨⟨?_, (h.g.kept g3 (hne (h.g.ne_box hx))).below hb, (h.v.kept g3 (hne (h.v.ne_box hx))).below hb, (h.a.kept g3 (hne (h.a.ne_box hx))).below hb, (h.f.kept g3 (hne (h.f.ne_box hx))).below hb, [], hm, fun k => by simp [lookL]⟩, ?_, hlow.below hb, hz⟩
  · rw [hb.block B (by rw [hsz]; exact h.lt), e3]
    rfl
  · have : (ws.alloc (.cells cs t)).heap[ws.heap.size]? = some (.cells cs t (0, 0)) := heap_alloc_new ws _
    rw [hsz] at this
    rw [hW]
    have hb2 : Below (ws.alloc (.cells cs t)).heap.size (ws.alloc (.cells cs t)) ((ws.alloc (.cells cs t)).alloc (.map #[] 0)) := (Below.refl _ _).alloc (Nat.le_refl _) _
    exact (hb2.block w.heap.size (by simp [hsz])).trans this
end

set_option maxHeartbeats 8000000 in
theorem function_any {w0 wk w : World} {B G V A F : Nat} {c : Cx} {K0 : Nat} (h : PrSt w0 wk w B G V A F c) (hs : Small c K0) (f : Fu) {up ul ub : Value} {n : Nat} (h1 : Strs w0 up f.params) (h2 : Strs w0 ul f.locals) (h3 : StsAt w0 n ub f.body)
    (hn : ∀ x ∈ f.params ++ f.locals, x.size ≤ maxLen) (hK : K0 + 5 * nodesS f.body ≤ 1000000000) (hK1 : 1 ≤ K0) (hp : f.params.length ≤ 100000000) (hl : f.locals.length ≤ 100000000) :
    Calls Try.prog 47 #[.pointer (some ⟨B, 0, none⟩), .agg #[.string f.name, up, ul, ub]] w fun e w' => PrEnd w0 wk B G V A F (functionC c f) e w' := by
  obtain ⟨name, params, locs, body⟩ := f
  have hmm := @run_makeMap Try.prog
  obtain ⟨a1, c1, rfl, k1, k2, _⟩ := id h1
  obtain ⟨a2, c2, rfl, k3, k4, _⟩ := id h2
  obtain ⟨a3, c3, rfl, k5, k6⟩ := h3.len
  simp only at *
  unfold maxLen at k2 k4 k6
  have H := Keep.mk h
  have H1 := Keep.mk h1
  have H2 := Keep.mk h2
  have H3 := Keep.mk h3
  have HN := Keep.mk hn
  have HQ : Keep (functionC c ⟨name, params, locs, body⟩ = (ownC c.globals [] (params ++ locs)).bind fun own => (stsC { c with name := name, own := own } body 1).bind fun r =>
    .ok { c with name := name, own := own, funcs := (name, ⟨params.length, max 2 (max (params.length + 1) r.1), r.2⟩) :: c.funcs }) := ⟨rfl⟩
  clear h h1 h2 h3 hn
  generalize functionC c ⟨name, params, locs, body⟩ = q at *
  obtain ⟨b0, b1, b2, b3⟩ := H.out.cells
  obtain ⟨nm, ow, dp, hbox⟩ := H.out.box
  have HBX := Keep.mk hbox
  have b4 : w.cell? ⟨B, 4, none⟩ = some (.string nm) := by simp [World.cell?, hbox]
  have b5 : w.cell? ⟨B, 5, none⟩ = some (.map ow) := by simp [World.cell?, hbox]
  have b6 : w.cell? ⟨B, 6, none⟩ = some (.int .i64 dp) := by simp [World.cell?, hbox]
  have bf : ∀ i, w.frozen? ⟨B, i, none⟩ = false := fun i => by simp [World.frozen?, hbox]
  have bf4 := bf 4
  have bf5 := bf 5
  have bf6 := bf 6
  have bl := H.out.lt
  clear hbox bf
  go_enter Try.func47, Try.ntmps47
  go_upto_region 2 with (fail)
  obtain ⟨W, hW⟩ : ∃ W, W = (((((w.setCell ⟨B, 4, none⟩ (.string name)).setCell ⟨B, 5, none⟩ (.map (some (w.heap.size + 1)))).setCell ⟨B, 6, none⟩ (.int .i64 1)).alloc (.cells #[.string name, .slice a1 params.length c1, .slice a2 locs.length c2, .slice a3 body.length c3] 36)).alloc (.map #[] 0)) := ⟨_, rfl⟩
  obtain ⟨hC1, hY1, hL1, hS1⟩ := fn_start H.out name _ _ W hW
  rw [← hW]
  have HC1 := Keep.mk hC1
  have HY1 := Keep.mk hY1
  have HL1 := Keep.mk hL1
  obtain ⟨Y, hY⟩ : ∃ Y, Y = w.heap.size := ⟨_, rfl⟩
  have HYE := Keep.mk hY
  have HS1 : Keep (W.heap.size = Y + 2) := ⟨by rw [hY]; exact hS1⟩
  rw [← hY] at HC1 HY1 ⊢
  clear hW hC1 hY1 hL1 hS1 b0 b1 b2 b3 b4 b5 b6 bf4 bf5 bf6 bl HBX hY
  have HDIS : Keep ((Y + 1 ≠ G ∧ Y + 1 ≠ V ∧ Y + 1 ≠ A ∧ Y + 1 ≠ F) ∧ (Y + 1 ≠ B ∧ Y ≠ B ∧ w0.heap.size ≤ Y ∧ wk.heap.size ≤ Y)) := ⟨by
    have := HYE.out
    have := H.out.lt
    have := H.out.g.lt
    have := H.out.v.lt
    have := H.out.a.lt
    have := H.out.f.lt
    have := H.out.low.1.size
    have := H.out.low.2.size
    omega⟩
  have y1 : W.cell? ⟨Y, 1, none⟩ = some (.slice a1 params.length c1) := by simp [World.cell?, HY1.out]
  have y2 : W.cell? ⟨Y, 2, none⟩ = some (.slice a2 locs.length c2) := by simp [World.cell?, HY1.out]
  have yl : Y < W.heap.size := (Array.getElem?_eq_some_iff.1 HY1.out).1
  have hba : Below W.heap.size W (W.alloc (.cells #[.slice a1 params.length c1, .slice a2 locs.length c2] 22)) := (Below.refl _ _).alloc (Nat.le_refl _) _
  have hXn : (W.alloc (.cells #[.slice a1 params.length c1, .slice a2 locs.length c2] 22)).heap[W.heap.size]? = some (.cells #[.slice a1 params.length c1, .slice a2 locs.length c2] 22 (0, 0)) := heap_alloc_new W _
  have HLX := Keep.mk (HL1.out.below hba)
  have HCC := Keep.mk (concat_any hXn (H1.out.below HLX.out.1 (Nat.le_refl _)) (H2.out.below HLX.out.1 (Nat.le_refl _)) hp hl)
  have HBA := Keep.mk hba
  clear hXn hba
  go_wp2_with fail
  refine HCC.out.mono ?_
  rintro e w3 ⟨v, rfl, hrow, hb3⟩
  have HB3 := Keep.mk (HBA.out.trans (hb3.mono HBA.out.size))
  obtain ⟨av, cv, rfl⟩ := ownsRow_slice hrow
  have HR3 := Keep.mk hrow
  have HC3 := Keep.mk (HC1.out.below HB3.out)
  have HL3 := Keep.mk (HL1.out.below HB3.out)
  have HY3 := Keep.mk ((HB3.out.block Y yl).trans HY1.out)
  have hbase : (W.alloc (.cells #[.slice a1 params.length c1, .slice a2 locs.length c2] 22)).heap.size = Y + 3 := by rw [World.size_alloc, HS1.out]
  have HRB : Keep (OwnStrs (Y + 3) w3 (.slice av (params ++ locs).length cv) (params ++ locs)) := ⟨by rw [← hbase]; exact HR3.out⟩
  have HCAP := Keep.mk (show ∃ k : Nat, k = (params ++ locs).length ∧ k ≤ 200000000 from ⟨_, rfl, by rw [List.length_append]; omega⟩)
  clear hrow hb3 HCC HBA y1 y2 yl HC1 HY1 HL1 HLX HB3 HR3 hbase
  generalize hns : params ++ locs = ns at *
  have hnl : ns.length ≤ 200000000 := by obtain ⟨k, h1, h2⟩ := HCAP.out; omega
  clear hns HCAP HS1
  go_wp2_with fail
  go_loopw [26] (fun i wr => ∃ (k : Nat) (own : List BA), k ≤ ns.length ∧ i = .int .i64 k ∧ Keep (ownC c.globals [] (ns.take k) = .ok own) ∧ Keep (CkIn wr B G V A F (Y + 1) { c with name := name, own := own } 1) ∧ Keep (Lw w0 wk wr B G V A F) ∧
    Keep (wr.heap[Y]? = some (.cells #[.string name, .slice a1 params.length c1, .slice a2 locs.length c2, .slice a3 body.length c3] 36 (0, 0))) ∧ Keep (OwnStrs (Y + 3) wr (.slice av ns.length cv) ns)) (fun i _ => ns.length - (intOf i).toNat)
  case atStart => exact ⟨0, [], Nat.zero_le _, rfl, ⟨rfl⟩, HC3, HL3, HY3, HRB⟩
  case round =>
    obtain ⟨k, own, hk, rfl, HX, HCr, HLr, HYr, HRr⟩ := hrel
    clear HC3 HL3 HY3 HRB
    by_cases hlt : k < ns.length
    · have k0 : (0 : Int) ≤ k := by omega
      have k1 : (k : Int) < ns.length := by omega
      obtain ⟨x, hxk⟩ : ∃ x, ns[k]? = some x := ⟨_, List.getElem?_eq_getElem hlt⟩
      obtain ⟨st1, st2⟩ := ownC_step HX.out hxk
      have hst := Keep.mk st1
      have HBAD := Keep.mk st2
      have HXS := Keep.mk (HN.out x (List.mem_of_getElem? hxk))
      obtain ⟨b, o, rfl, hb, hc0⟩ : ∃ b o, av = some ⟨b, o, none⟩ ∧ b < wr.heap.size ∧ wr.cell? ⟨b, o + k, none⟩ = some (.string x) := by
        obtain ⟨_, _, hv, _, _, hcs⟩ := HRr.out.strs
        cases hv
        rcases hcs with h | ⟨b, o, h1, h2, h3⟩
        · rw [h] at hlt; simp at hlt
        · exact ⟨b, o, h1, h2, h3 k x hxk⟩
      clear st1 st2 hxk
      go_upto_region 5 with (fail)
      have HI := Keep.mk (isName_any x wr HXS.out)
      go_wp2_with fail
      refine HI.out.mono ?_
      rintro _ w4 ⟨rfl, hb4⟩
      have HC4 := Keep.mk (HCr.out.below hb4)
      have HL4 := Keep.mk (HLr.out.below hb4)
      have HY4 := Keep.mk ((hb4.block Y (Array.getElem?_eq_some_iff.1 HYr.out).1).trans HYr.out)
      have HR4 : Keep (OwnStrs (Y + 3) w4 (.slice (some ⟨b, o, none⟩) ns.length cv) ns) := ⟨World.ownsRow.kept HRr.out (grown_none hb4) (.inr (by simp [Value.ownBlock]))⟩
      clear hb4 hc0 hb HCr HLr HYr HRr HI
      cases hi : Ck.isName x with
      | false =>
        rw [hi] at HBAD
        go_wp2_with fail
        refine (require_bad _ _ _).mono ?_
        rintro _ w5 ⟨rfl, rfl⟩
        exact ⟨rfl, PrEnd.bad (by rw [HQ.out, HBAD.out (x, 7) rfl]; rfl) HL4.out⟩
      | true =>
        rw [hi] at HBAD hst
        clear hi
        go_wp2_with fail
        refine (require_ok _ _ _).mono ?_
        rintro _ w5 ⟨⟨v2, rfl⟩, rfl⟩
        have hg := HC4.out.g.look x
        have ho := HC4.out.o.look x
        have e0 := HC4.out.cell 0
        have e5 := HC4.out.cell 5
        have el := HC4.out.lt
        simp only [List.getElem?_cons_zero, List.getElem?_cons_succ] at e0 e5 hg ho
        by_cases hxg : x ∈ c.globals
        · rw [decide_eq_true hxg] at hg HBAD
          clear hxg
          go_wp2_with fail
          refine (require_bad _ _ _).mono ?_
          rintro _ w6 ⟨rfl, rfl⟩
          exact ⟨rfl, PrEnd.bad (by rw [HQ.out, HBAD.out (x, 8) rfl]; rfl) HL4.out⟩
        · rw [decide_eq_false hxg] at hg HBAD hst
          by_cases hxo : x ∈ own
          · rw [decide_eq_true hxo] at ho HBAD
            clear hxg hxo
            go_wp2_with fail
            refine (require_bad _ _ _).mono ?_
            rintro _ w6 ⟨rfl, rfl⟩
            exact ⟨rfl, PrEnd.bad (by rw [HQ.out, HBAD.out (x, 8) rfl]; rfl) HL4.out⟩
          · rw [decide_eq_false hxo] at ho hst
            obtain ⟨m, hM, hm⟩ := HC4.out.o
            have HM := Keep.mk hM
            have Hm := Keep.mk hm
            clear hM hm hxg hxo HBAD
            go_upto_region 7 with (first
              | (go_at_call 46; (with_reducible refine (require_ok _ _ _).mono ?_); rintro _ w6 ⟨⟨v6, rfl⟩, rfl⟩))
            go_wp2_with (first
              | ((with_reducible (show wpList _ _ _ (⟨none, Op.mapUpdate _ _ _ _, _, _, _, _⟩ :: _) _ _)); go_must (refine wpList_store rfl _ _ _ _ rfl Try.underlying37 rfl HM.out _ rfl ?_); intro w' h1 h2; have HP := Keep.mk (And.intro (HC4.out.putO HDIS.out.1.1 HDIS.out.1.2.1 HDIS.out.1.2.2.1 HDIS.out.1.2.2.2 Hm.out h1 h2) h2); clear h1 h2))
            go_roundw
            case rel =>
              have hne : ∀ {a b : Nat}, a ≠ b → some a ≠ some b := fun h e => h (Option.some.inj e)
              refine ⟨k + 1, own ++ [x], by omega, by go_num, hst, ⟨HP.out.1⟩, ⟨HL4.out.grown HP.out.2 (by have := HDIS.out.2.2.2.1; omega) (.inr (by have := HDIS.out.2.2.2.2; omega))⟩, ⟨(HP.out.2.block Y (Array.getElem?_eq_some_iff.1 HY4.out).1 (hne (by omega))).trans HY4.out⟩, ⟨World.ownsRow.kept HR4.out HP.out.2 (.inr (fun e => ?_))⟩⟩
              have := (World.ownsRow.lt HR4.out _ e).1
              omega
            case measure => simp [intOf]; omega
    · have hka : k = ns.length := by omega
      subst hka
      rw [List.take_length] at HX
      have HQ2 : Keep (q = (stsC { c with name := name, own := own } body 1).bind fun r =>
        .ok { c with name := name, own := own, funcs := (name, ⟨params.length, max 2 (max (params.length + 1) r.1), r.2⟩) :: c.funcs }) := ⟨by rw [HQ.out, HX.out]; rfl⟩
      have y3 : wr.cell? ⟨Y, 3, none⟩ = some (.slice a3 body.length c3) := by simp [World.cell?, HYr.out]
      have yl : Y < wr.heap.size := (Array.getElem?_eq_some_iff.1 HYr.out).1
      have hs' : Small { c with name := name, own := own } K0 := ⟨hs.funcs⟩
      have HST := Keep.mk (stmts_any hs' n body _ wr 1 H3.out ⟨HLr.out.1, H.out.hB⟩ HCr.out hK1 hK)
      clear hnl HQ HX
      go_wp2_with fail
      refine HST.out.mono ?_
      rintro e' w4 hAf
      clear HST y3 yl
      obtain ⟨r, hx⟩ : ∃ r, stsC { c with name := name, own := own } body 1 = r := ⟨_, rfl⟩
      rw [hx] at hAf HQ2
      cases r with
      | bad v =>
        obtain ⟨hg4, rfl⟩ := hAf
        exact ⟨rfl, PrEnd.bad HQ2.out (HLr.out.grown hg4 H.out.hB (by simp))⟩
      | ok p =>
        obtain ⟨n1, d2⟩ := p
        obtain ⟨hg4, rfl, hc4⟩ := hAf
        have hle := stsC_le hs' body 1 n1 d2 hx
        have HC4 := Keep.mk hc4
        have HL4 := Keep.mk (HLr.out.grown hg4 H.out.hB (by simp))
        have HY4 := Keep.mk ((hg4.block Y (Array.getElem?_eq_some_iff.1 HYr.out).1 (fun e => HDIS.out.2.2.1 (Option.some.inj e))).trans HYr.out)
        have hn1 : n1 ≤ 1000000000 := by omega
        have hd2 : d2 ≤ 1000000000 := by omega
        clear hg4 hc4 hx hle HCr HLr HYr HRr hs'
        go_upto_region 10 with (fail)
        have y0 : w4.cell? ⟨Y, 0, none⟩ = some (.string name) := by simp [World.cell?, HY4.out]
        have y1 : w4.cell? ⟨Y, 1, none⟩ = some (.slice a1 params.length c1) := by simp [World.cell?, HY4.out]
        have yl : Y < w4.heap.size := (Array.getElem?_eq_some_iff.1 HY4.out).1
        have e3 := HC4.out.cell 3
        have e6 := HC4.out.cell 6
        have el := HC4.out.lt
        simp only [List.getElem?_cons_zero, List.getElem?_cons_succ] at e3 e6
        obtain ⟨m, hM, hm⟩ := HC4.out.f
        have HM := Keep.mk hM
        have Hm := Keep.mk hm
        have hwr : IntKind.i64.wrap ((params.length : Int) + 1) = (params.length : Int) + 1 := by rw [IntKind.wrap_i64]; omega
        have HV : Keep ((Value.agg #[.int .i64 (params.length : Int), .int .i64 (if (if (2 : Int) < (params.length : Int) + 1 then (params.length : Int) + 1 else 2) < (n1 : Int) then (n1 : Int) else if (2 : Int) < (params.length : Int) + 1 then (params.length : Int) + 1 else 2), .int .i64 (d2 : Int)]) = smA ⟨params.length, max 2 (max (params.length + 1) n1), d2⟩) := ⟨by
          unfold smA
          have : (if (if (2 : Int) < (params.length : Int) + 1 then (params.length : Int) + 1 else 2) < (n1 : Int) then (n1 : Int) else if (2 : Int) < (params.length : Int) + 1 then (params.length : Int) + 1 else 2) = ((max 2 (max (params.length + 1) n1) : Nat) : Int) := by
            split <;> split <;> omega
          rw [this]⟩
        clear hM hm
        go_still_tail 20, (by kernel_rfl)
        change wpList _ _ _ _ _ w4.drew
        go_wp2_with (first
          | ((with_reducible (show wpList _ _ _ (⟨none, Op.mapUpdate _ _ _ _, _, _, _, _⟩ :: _) _ _)); go_must (refine wpList_store rfl _ _ _ _ rfl Try.underlying74 rfl (show MapIs SK w4.drew F m from HM.out) _ rfl ?_); intro w' h1 h2; have HP := Keep.mk (And.intro h1 h2); clear h1 h2))
        all_goals (
          go_end0
          have h1 : MapIs SK w' F (putL name (smA ⟨params.length, max 2 (max (params.length + 1) n1), d2⟩) m) := by rw [← HV.out]; exact HP.out.1
          have hg9 : w4.grownBy w' (some F) := ⟨HP.out.2.os, HP.out.2.tape, HP.out.2.output, HP.out.2.size, HP.out.2.block⟩
          have hne : ∀ {a b : Nat}, a ≠ b → some a ≠ some b := fun h e => h (Option.some.inj e)
          refine PrEnd.ok HQ2.out ⟨HL4.out.grown hg9 H.out.hF (by simp), H.out.hB, H.out.hG, H.out.hV, H.out.hA, H.out.hF, ⟨_, _, _, (hg9.block B HC4.out.lt (hne (HC4.out.f.ne_box HC4.out.box).symm)).trans HC4.out.box⟩,
            HC4.out.g.kept hg9 (hne H.out.dis.1.2.2), HC4.out.v.kept hg9 (hne H.out.dis.2.2.1), HC4.out.a.kept hg9 (hne H.out.dis.2.2.2), SumL.put Hm.out h1, H.out.dis⟩)
end Go.Proofs.Ytgimdbflpdmlmaa
