/- The reference's expr: what it says is what the program's check of an expression comes to. No condition. -/
import Derived.Test.YtgimdbflpdmlmaaRuCalled
import Derived.Test.YtgimdbflpdmlmaaCkValid
namespace Go.Proofs.Ytgimdbflpdmlmaa
set_option maxRecDepth 100000
open Go.RowKit Go.Shelf Go.Proofs.Ytgimdbflpdmlmaa.Ck

theorem pr_ok {α : Type} {a : α} : pr (.ok a : Res α) = (⟨#[]⟩, 0) := rfl
theorem pr_bind {α β : Type} {r : Res α} {a : α} {f : α → Res β} (h : r = .ok a) : pr (r.bind f) = pr (f a) := by rw [h]; rfl
theorem pr_bad {α β : Type} {r : Res α} {v : Viol} {f : α → Res β} (h : r = .bad v) : pr (r.bind f) = v := by rw [h]; rfl
theorem pr_bind_ok {α β : Type} (r : Res α) (f : α → β) : pr (r.bind fun a => .ok (f a)) = pr r := by cases r <;> rfl
theorem pr_opC (c : Cx) (op name : BA) (ns : List Nat) (d : Nat) : pr (opC c op name ns d) = if op = sVar then pr (scalarC c name) else if op = sElem then pr (arrayC c name) else if op = sCall then pr (callC c name ns d) else (⟨#[]⟩, 0) := by
  have e1 : sNum ≠ sVar := by decide +kernel
  have e2 : sNum ≠ sElem := by decide +kernel
  have e3 : sNum ≠ sCall := by decide +kernel
  unfold opC
  by_cases h0 : op = sNum
  · subst h0
    rw [if_pos rfl, if_neg e1, if_neg e2, if_neg e3]; rfl
  rw [if_neg h0]
  by_cases h1 : op = sVar
  · rw [if_pos h1, if_pos h1]; exact pr_bind_ok _ _
  rw [if_neg h1, if_neg h1]
  by_cases h2 : op = sElem
  · rw [if_pos h2, if_pos h2]; exact pr_bind_ok _ _
  rw [if_neg h2, if_neg h2]
  by_cases h3 : op = sCall
  · rw [if_pos h3, if_pos h3]
  rw [if_neg h3, if_neg h3]
  split
  · rfl
  · split <;> rfl
theorem exprsC_length {c : Cx} : ∀ {l : List Ex} {d : Nat} {ns : List Nat} {d' : Nat}, exprsC c l d = .ok (ns, d') → ns.length = l.length
  | [], d, ns, d', h => by rw [exprsC_nil] at h; cases h; rfl
  | e :: l, d, ns, d', h => by
    rw [exprsC_cons] at h
    obtain ⟨r, h1, h⟩ := Res.bind_okay.1 h
    obtain ⟨q, h2, h⟩ := Res.bind_okay.1 h
    cases h
    rw [List.length_cons, List.length_cons, exprsC_length (l := l) (d := r.2) (ns := q.1) (d' := q.2) h2]
theorem prob_nz {α : Type} {r : Res α} (h : NZ r) : (pr r).2 = 0 ↔ ∃ a, r = .ok a := by
  cases r with
  | bad v => exact ⟨fun h0 => absurd h0 (h v rfl), fun ⟨a, h⟩ => by cases h⟩
  | ok a => exact ⟨fun _ => ⟨a, rfl⟩, fun _ => rfl⟩
set_option maxHeartbeats 16000000 in
theorem rexpr_any {s1 s2 s3 s4 s5 : Value} {c : Cx} {fu : List Fu} {later : List BA} (n : Nat) : ∀ (e : Ex) (u : Value) (w : World) (d : Nat), ExsAt w n u e.args → ScAt w s1 s2 s3 s4 s5 c fu later →
    Calls Try.prog 51 #[scV c s1 s2 s3 s4 s5, .agg #[.string e.op, .int .u32 e.num, .string e.name, u]] w fun e' w' => e' = .returned (probV (pr (exprC c e d))) ∧ Below w.heap.size w w' := by
  induction n using Nat.strongRecOn with
  | ind n ih =>
  intro e u w d hE h
  obtain ⟨op, num, name, args⟩ := e
  change ExsAt w n u args at hE
  change Calls Try.prog 51 #[scV c s1 s2 s3 s4 s5, .agg #[.string op, .int .u32 num, .string name, u]] w _
  obtain ⟨ua, ucap, rfl, hu1, hu2⟩ := hE.len
  obtain ⟨⟨a1, c1, rfl⟩, ⟨a2, c2, rfl⟩, ⟨a3, c3, rfl⟩, ⟨a4, c4, rfl, k1, k2⟩, a5, c5, rfl⟩ := h.slices
  have H := Keep.mk h
  have HE' := Keep.mk hE
  have IH := Keep.mk ih
  have HQ : Keep (pr (exprC c (.mk op num name args) d) = pr ((req (shapeB op args.length) c.name 3).bind fun _ => (exprsC c args d).bind fun r => opC c op name r.1 r.2)) := ⟨by rw [exprC]; rfl⟩
  generalize pr (exprC c (.mk op num name args) d) = q at *
  have HSH := Keep.mk (fun w0 : World => shape_any (w := w0) op num name ua args.length ucap (Nat.le_trans hu1 hu2))
  unfold maxLen at hu2 k2
  clear h hE ih
  go_enter Try.func51, Try.ntmps51
  have HB := Keep.mk (Boxes3.made w c.name (.slice a1 c.own.length c1) (.slice a2 c.vars.length c2) (.slice a3 c.arrays.length c3) (.slice a4 fu.length c4) (.slice a5 later.length c5) op num name (.slice ua args.length ucap))
  unfold made3 at HB
  unfold scV
  go_upto_region 1 with (fail)
  generalize (((w.alloc (.cells #[.string c.name, .slice a1 c.own.length c1, .slice a2 c.vars.length c2, .slice a3 c.arrays.length c3, .slice a4 fu.length c4, .slice a5 later.length c5] 83)).alloc (.cells #[.string op, .int .u32 num, .string name, .slice ua args.length ucap] 42)).alloc (.cells #[.string ⟨#[]⟩, .int .i64 0] 79)) = w1 at *
  have xc0 := HB.out.c0
  have xc1 := HB.out.c1
  have xc2 := HB.out.c2
  have xc3 := HB.out.c3
  have xc4 := HB.out.c4
  have xc5 := HB.out.c5
  have xe0 := HB.out.e0
  have xe1 := HB.out.e1
  have xe2 := HB.out.e2
  have xe3 := HB.out.e3
  have xl0 := HB.out.l0
  have xl1 := HB.out.l1
  have xl2 := HB.out.l2
  have pc0 : w1.cell? ⟨w.heap.size + 1 + 1, 0, none⟩ = some (.string ⟨#[]⟩) := by simp [World.cell?, HB.out.p]
  have pc1 : w1.cell? ⟨w.heap.size + 1 + 1, 1, none⟩ = some (.int .i64 0) := by simp [World.cell?, HB.out.p]
  have pf0 : w1.frozen? ⟨w.heap.size + 1 + 1, 0, none⟩ = false := by simp [World.frozen?, HB.out.p]
  have pf1 : w1.frozen? ⟨w.heap.size + 1 + 1, 1, none⟩ = false := by simp [World.frozen?, HB.out.p]
  generalize hs : shapeB op args.length = sb at *
  have HSB := Keep.mk hs
  clear hs
  cases sb with
  | false =>
    have HE : Keep (q = (c.name, 3)) := ⟨by rw [HQ.out]; rfl⟩
    go_wp2_with fail
    refine (HSH.out w1).mono ?_
    rintro _ w2 ⟨rfl, hb2⟩
    clear xc0 xc1 xc2 xc3 xc4 xc5 xe0 xe1 xe2 xe3 xl0 xl1 xl2 pc0 pc1 pf0 pf1
    replace HB := Keep.mk (HB.out.later hb2)
    clear hb2
    have xc0 := HB.out.c0
    have xc1 := HB.out.c1
    have xc2 := HB.out.c2
    have xc3 := HB.out.c3
    have xc4 := HB.out.c4
    have xc5 := HB.out.c5
    have xe0 := HB.out.e0
    have xe1 := HB.out.e1
    have xe2 := HB.out.e2
    have xe3 := HB.out.e3
    have xl0 := HB.out.l0
    have xl1 := HB.out.l1
    have xl2 := HB.out.l2
    have pc0 : w2.cell? ⟨w.heap.size + 1 + 1, 0, none⟩ = some (.string ⟨#[]⟩) := by simp [World.cell?, HB.out.p]
    have pc1 : w2.cell? ⟨w.heap.size + 1 + 1, 1, none⟩ = some (.int .i64 0) := by simp [World.cell?, HB.out.p]
    have pf0 : w2.frozen? ⟨w.heap.size + 1 + 1, 0, none⟩ = false := by simp [World.frozen?, HB.out.p]
    have pf1 : w2.frozen? ⟨w.heap.size + 1 + 1, 1, none⟩ = false := by simp [World.frozen?, HB.out.p]
    go_wp2_with fail
    have hp := HB.out.put (c.name) (3)
    generalize ((w2.setCell ⟨w.heap.size + 1 + 1, 0, none⟩ (.string (c.name))).setCell ⟨w.heap.size + 1 + 1, 1, none⟩ (.int .i64 (3))) = W at *
    obtain ⟨y0, y1, yb⟩ := hp
    refine bodyPost_ret (v := probV (c.name, 3)) (by simp [results, Try.results51, go_sem, y0, y1, probV]) rfl ⟨by rw [HE.out], yb⟩
  | true =>
    have HQ2 : Keep (q = pr ((exprsC c args d).bind fun r => opC c op name r.1 r.2)) := ⟨by rw [HQ.out]; rfl⟩
    clear HQ
    go_wp2_with fail
    refine (HSH.out w1).mono ?_
    rintro _ w2 ⟨rfl, hb2⟩
    clear xc0 xc1 xc2 xc3 xc4 xc5 xe0 xe1 xe2 xe3 xl0 xl1 xl2 pc0 pc1 pf0 pf1
    replace HB := Keep.mk (HB.out.later hb2)
    clear hb2 HSH
    have xc0 := HB.out.c0
    have xc1 := HB.out.c1
    have xc2 := HB.out.c2
    have xc3 := HB.out.c3
    have xc4 := HB.out.c4
    have xc5 := HB.out.c5
    have xe0 := HB.out.e0
    have xe1 := HB.out.e1
    have xe2 := HB.out.e2
    have xe3 := HB.out.e3
    have xl0 := HB.out.l0
    have xl1 := HB.out.l1
    have xl2 := HB.out.l2
    have pc0 : w2.cell? ⟨w.heap.size + 1 + 1, 0, none⟩ = some (.string ⟨#[]⟩) := by simp [World.cell?, HB.out.p]
    have pc1 : w2.cell? ⟨w.heap.size + 1 + 1, 1, none⟩ = some (.int .i64 0) := by simp [World.cell?, HB.out.p]
    have pf0 : w2.frozen? ⟨w.heap.size + 1 + 1, 0, none⟩ = false := by simp [World.frozen?, HB.out.p]
    have pf1 : w2.frozen? ⟨w.heap.size + 1 + 1, 1, none⟩ = false := by simp [World.frozen?, HB.out.p]
    go_wp2_with fail
    clear xc0 xc1 xc2 xc3 xc4 xc5 xe0 xe1 xe2 xe3 xl0 xl1 xl2 pc0 pc1 pf0 pf1
    go_loopw [17] (fun i wr => ∃ (k : Nat) (ns : List Nat) (d' : Nat), k ≤ args.length ∧ i = .int .i64 k ∧ Keep (exprsC c (args.take k) d = .ok (ns, d')) ∧ Keep (Boxes3 w wr c.name (.slice a1 c.own.length c1) (.slice a2 c.vars.length c2) (.slice a3 c.arrays.length c3) (.slice a4 fu.length c4) (.slice a5 later.length c5) op num name (.slice ua args.length ucap))) (fun i _ => args.length - (intOf i).toNat)
    case atStart => exact ⟨0, [], d, Nat.zero_le _, rfl, ⟨by rw [List.take_zero, exprsC_nil]⟩, HB⟩
    case round =>
      obtain ⟨k, ns, d', hk, rfl, HX, HBr⟩ := hrel
      clear HB
      have HB := HBr
      by_cases hlt : k < args.length
      · have k0 : (0 : Int) ≤ k := by omega
        have k1' : (k : Int) < args.length := by omega
        obtain ⟨e, hek⟩ : ∃ e, args[k]? = some e := ⟨_, List.getElem?_eq_getElem hlt⟩
        obtain ⟨m, b, o, cap, u, hnm, hua, hb, x0, x1, x2, x3, hu⟩ := HE'.out.get hek
        simp only [Value.slice.injEq, true_and] at hua
        obtain ⟨rfl, rfl⟩ := hua
        have z0 := (HBr.out.bel.cell (p := ⟨b, o + k * 4, none⟩) hb).trans x0
        have z1 := (HBr.out.bel.cell (p := ⟨b, o + k * 4 + 1, none⟩) hb).trans x1
        have z2 := (HBr.out.bel.cell (p := ⟨b, o + k * 4 + 2, none⟩) hb).trans x2
        have z3 := (HBr.out.bel.cell (p := ⟨b, o + k * 4 + 3, none⟩) hb).trans x3
        have hbl : b < wr.heap.size := Nat.lt_of_lt_of_le hb HBr.out.bel.size
        have HEK := Keep.mk hek
        obtain ⟨uu, ucap', rfl, _, _⟩ := hu.len
        have HU := Keep.mk hu
        clear x0 x1 x2 x3 hek hu
        go_upto_region 6 with (fail)
        have hbs : Below wr.heap.size wr (wr.alloc (.cells #[.string e.op, .int .u32 e.num, .string e.name, .slice uu e.args.length ucap'] 42)) := (Below.refl _ _).alloc (Nat.le_refl _) _
        have hZ : (wr.alloc (.cells #[.string e.op, .int .u32 e.num, .string e.name, .slice uu e.args.length ucap'] 42)).heap[wr.heap.size]? = some (.cells #[.string e.op, .int .u32 e.num, .string e.name, .slice uu e.args.length ucap'] 42 (0, 0)) := heap_alloc_new wr _
        replace HB := Keep.mk (HB.out.later hbs)
        clear hbs z0 z1 z2 z3 hbl HBr
        obtain ⟨Y, hY⟩ : ∃ Y, Y = wr.heap.size := ⟨_, rfl⟩
        rw [← hY] at hZ ⊢
        generalize (wr.alloc (.cells #[.string e.op, .int .u32 e.num, .string e.name, .slice uu e.args.length ucap'] 42)) = ws at *
        have p0 : ws.cell? ⟨Y, 0, none⟩ = some (.string e.op) := by simp [World.cell?, hZ]
        have p1 : ws.cell? ⟨Y, 1, none⟩ = some (.int .u32 e.num) := by simp [World.cell?, hZ]
        have p2 : ws.cell? ⟨Y, 2, none⟩ = some (.string e.name) := by simp [World.cell?, hZ]
        have p3 : ws.cell? ⟨Y, 3, none⟩ = some (.slice uu e.args.length ucap') := by simp [World.cell?, hZ]
        have pl : Y < ws.heap.size := (Array.getElem?_eq_some_iff.1 hZ).1
        clear hZ hY
        have hi := IH.out m (by omega) e _ ws d' (HU.out.below HB.out.bel (Nat.le_refl _)) (H.out.below HB.out.bel)
        obtain ⟨v1, v2, hv⟩ : ∃ v1 v2, pr (exprC c e d') = (v1, v2) := ⟨_, _, rfl⟩
        rw [hv] at hi
        unfold probV scV at hi
        have HI := Keep.mk hi
        have HV := Keep.mk hv
        clear hi hv
        have xc0 := HB.out.c0
        have xc1 := HB.out.c1
        have xc2 := HB.out.c2
        have xc3 := HB.out.c3
        have xc4 := HB.out.c4
        have xc5 := HB.out.c5
        have xe0 := HB.out.e0
        have xe1 := HB.out.e1
        have xe2 := HB.out.e2
        have xe3 := HB.out.e3
        have xl0 := HB.out.l0
        have xl1 := HB.out.l1
        have xl2 := HB.out.l2
        have pc0 : ws.cell? ⟨w.heap.size + 1 + 1, 0, none⟩ = some (.string ⟨#[]⟩) := by simp [World.cell?, HB.out.p]
        have pc1 : ws.cell? ⟨w.heap.size + 1 + 1, 1, none⟩ = some (.int .i64 0) := by simp [World.cell?, HB.out.p]
        have pf0 : ws.frozen? ⟨w.heap.size + 1 + 1, 0, none⟩ = false := by simp [World.frozen?, HB.out.p]
        have pf1 : ws.frozen? ⟨w.heap.size + 1 + 1, 1, none⟩ = false := by simp [World.frozen?, HB.out.p]
        go_wp2_with fail
        refine HI.out.mono ?_
        rintro _ w4 ⟨rfl, hb4⟩
        clear xc0 xc1 xc2 xc3 xc4 xc5 xe0 xe1 xe2 xe3 xl0 xl1 xl2 pc0 pc1 pf0 pf1 p0 p1 p2 p3 pl HI
        replace HB := Keep.mk (HB.out.later hb4)
        clear hb4
        have HBa := Keep.mk (HB.out.later ((Below.refl w4.heap.size w4).alloc (Nat.le_refl _) (.cells #[.string v1, .int .i64 v2] 79)))
        have xc0 := HB.out.c0
        have xc1 := HB.out.c1
        have xc2 := HB.out.c2
        have xc3 := HB.out.c3
        have xc4 := HB.out.c4
        have xc5 := HB.out.c5
        have xe0 := HB.out.e0
        have xe1 := HB.out.e1
        have xe2 := HB.out.e2
        have xe3 := HB.out.e3
        have xl0 := HB.out.l0
        have xl1 := HB.out.l1
        have xl2 := HB.out.l2
        have pc0 : w4.cell? ⟨w.heap.size + 1 + 1, 0, none⟩ = some (.string ⟨#[]⟩) := by simp [World.cell?, HB.out.p]
        have pc1 : w4.cell? ⟨w.heap.size + 1 + 1, 1, none⟩ = some (.int .i64 0) := by simp [World.cell?, HB.out.p]
        have pf0 : w4.frozen? ⟨w.heap.size + 1 + 1, 0, none⟩ = false := by simp [World.frozen?, HB.out.p]
        have pf1 : w4.frozen? ⟨w.heap.size + 1 + 1, 1, none⟩ = false := by simp [World.frozen?, HB.out.p]
        by_cases hv2 : v2 = 0
        · obtain ⟨⟨n1, d1⟩, hr⟩ := (prob_nz (nz_expr c e d')).1 (by rw [HV.out]; exact hv2)
          have HX2 : Keep (exprsC c (args.take (k + 1)) d = .ok (ns ++ [n1], d1)) := ⟨by
            rw [List.take_add_one, HEK.out]
            exact exprsC_snoc_ok HX.out hr⟩
          subst hv2
          clear hr
          go_wp2_with fail
          go_roundw
          case rel => exact ⟨k + 1, ns ++ [n1], d1, by omega, by go_num, HX2, HBa⟩
          case measure => simp [intOf]; omega
        · have q2 : (v2 != 0) = true := by simp [hv2]
          have HE : Keep (q = (v1, v2)) := ⟨by
            rw [HQ2.out]
            have hsplit : args = args.take k ++ e :: args.drop (k + 1) := by
              obtain ⟨hk2, he2⟩ := List.getElem?_eq_some_iff.1 HEK.out
              rw [← he2, ← List.drop_eq_getElem_cons hk2, List.take_append_drop]
            cases hx : exprC c e d' with
            | ok r =>
              have h2 := HV.out
              rw [hx, pr_ok] at h2
              cases h2
              exact absurd rfl hv2
            | bad v =>
              have h2 := HV.out
              rw [hx] at h2
              change v = (v1, v2) at h2
              have hbad := exprsC_bad (m := args.drop (k + 1)) HX.out hx
              rw [← hsplit] at hbad
              rw [pr_bad hbad, h2]⟩
          clear hv2
          go_wp2_with fail
          have hp := HB.out.put v1 v2
          have hl : w.heap.size + 1 + 1 < ((w4.setCell ⟨w.heap.size + 1 + 1, 0, none⟩ (.string v1)).setCell ⟨w.heap.size + 1 + 1, 1, none⟩ (.int .i64 v2)).heap.size := by simp; exact HB.out.l2
          generalize ((w4.setCell ⟨w.heap.size + 1 + 1, 0, none⟩ (.string v1)).setCell ⟨w.heap.size + 1 + 1, 1, none⟩ (.int .i64 v2)) = W at *
          obtain ⟨y0, y1, yb⟩ := hp
          have hba : Below W.heap.size W (W.alloc (.cells #[.string v1, .int .i64 v2] 79)) := (Below.refl _ _).alloc (Nat.le_refl _) _
          have y0 := (hba.cell (p := ⟨w.heap.size + 1 + 1, 0, none⟩) hl).trans y0
          have y1 := (hba.cell (p := ⟨w.heap.size + 1 + 1, 1, none⟩) hl).trans y1
          have yb := yb.trans (hba.mono yb.size)
          generalize (W.alloc (.cells #[.string v1, .int .i64 v2] 79)) = W2 at *
          refine bodyPost_ret (v := probV (v1, v2)) (by simp [results, Try.results51, go_sem, y0, y1, probV]) rfl ⟨by rw [HE.out], yb⟩
      · obtain rfl : k = args.length := by omega
        rw [List.take_length] at HX
        have HQ3 : Keep (q = if op = sVar then pr (scalarC c name) else if op = sElem then pr (arrayC c name) else if op = sCall then pr (callC c name ns d') else (⟨#[]⟩, 0)) := ⟨by rw [HQ2.out, pr_bind HX.out]; exact pr_opC c op name ns d'⟩
        have HNL := Keep.mk (exprsC_length HX.out)
        have HS := Keep.mk (H.out.below HB.out.bel)
        clear hlt hk HQ2 HBr
        have xc0 := HB.out.c0
        have xc1 := HB.out.c1
        have xc2 := HB.out.c2
        have xc3 := HB.out.c3
        have xc4 := HB.out.c4
        have xc5 := HB.out.c5
        have xe0 := HB.out.e0
        have xe1 := HB.out.e1
        have xe2 := HB.out.e2
        have xe3 := HB.out.e3
        have xl0 := HB.out.l0
        have xl1 := HB.out.l1
        have xl2 := HB.out.l2
        have pc0 : wr.cell? ⟨w.heap.size + 1 + 1, 0, none⟩ = some (.string ⟨#[]⟩) := by simp [World.cell?, HB.out.p]
        have pc1 : wr.cell? ⟨w.heap.size + 1 + 1, 1, none⟩ = some (.int .i64 0) := by simp [World.cell?, HB.out.p]
        have pf0 : wr.frozen? ⟨w.heap.size + 1 + 1, 0, none⟩ = false := by simp [World.frozen?, HB.out.p]
        have pf1 : wr.frozen? ⟨w.heap.size + 1 + 1, 1, none⟩ = false := by simp [World.frozen?, HB.out.p]
        by_cases g1 : op = sVar
        · have f1 : (op.toList == [118, 97, 114]) = true := by rw [eqs op (k := sVar) (by decide +kernel), decide_eq_true g1]
          have G1 := Keep.mk g1
          clear g1
          have hi := rscalar_any HS.out name
          obtain ⟨v1, v2, hv⟩ : ∃ v1 v2, pr (scalarC c name) = (v1, v2) := ⟨_, _, rfl⟩
          rw [hv] at hi
          unfold probV scV at hi
          have HI := Keep.mk hi
          have HE : Keep (q = (v1, v2)) := ⟨by rw [HQ3.out, if_pos G1.out, hv]⟩
          clear hi hv
          go_wp2_with fail
          refine HI.out.mono ?_
          rintro _ w4 ⟨rfl, hb4⟩
          clear xc0 xc1 xc2 xc3 xc4 xc5 xe0 xe1 xe2 xe3 xl0 xl1 xl2 pc0 pc1 pf0 pf1
          replace HB := Keep.mk (HB.out.later hb4)
          clear hb4
          have xc0 := HB.out.c0
          have xc1 := HB.out.c1
          have xc2 := HB.out.c2
          have xc3 := HB.out.c3
          have xc4 := HB.out.c4
          have xc5 := HB.out.c5
          have xe0 := HB.out.e0
          have xe1 := HB.out.e1
          have xe2 := HB.out.e2
          have xe3 := HB.out.e3
          have xl0 := HB.out.l0
          have xl1 := HB.out.l1
          have xl2 := HB.out.l2
          have pc0 : w4.cell? ⟨w.heap.size + 1 + 1, 0, none⟩ = some (.string ⟨#[]⟩) := by simp [World.cell?, HB.out.p]
          have pc1 : w4.cell? ⟨w.heap.size + 1 + 1, 1, none⟩ = some (.int .i64 0) := by simp [World.cell?, HB.out.p]
          have pf0 : w4.frozen? ⟨w.heap.size + 1 + 1, 0, none⟩ = false := by simp [World.frozen?, HB.out.p]
          have pf1 : w4.frozen? ⟨w.heap.size + 1 + 1, 1, none⟩ = false := by simp [World.frozen?, HB.out.p]
          go_wp2_with fail
          have hp := HB.out.put (v1) (v2)
          generalize ((w4.setCell ⟨w.heap.size + 1 + 1, 0, none⟩ (.string (v1))).setCell ⟨w.heap.size + 1 + 1, 1, none⟩ (.int .i64 (v2))) = W at *
          obtain ⟨y0, y1, yb⟩ := hp
          refine bodyPost_ret (v := probV (v1, v2)) (by simp [results, Try.results51, go_sem, y0, y1, probV]) rfl ⟨by rw [HE.out], yb⟩
        have f1 : (op.toList == [118, 97, 114]) = false := by rw [eqs op (k := sVar) (by decide +kernel), decide_eq_false g1]
        have G1 := Keep.mk g1
        clear g1
        by_cases g2 : op = sElem
        · have f2 : (op.toList == [101, 108, 101, 109]) = true := by rw [eqs op (k := sElem) (by decide +kernel), decide_eq_true g2]
          have G2 := Keep.mk g2
          clear g2
          have hi := rindexed_any HS.out name
          obtain ⟨v1, v2, hv⟩ : ∃ v1 v2, pr (arrayC c name) = (v1, v2) := ⟨_, _, rfl⟩
          rw [hv] at hi
          unfold probV scV at hi
          have HI := Keep.mk hi
          have HE : Keep (q = (v1, v2)) := ⟨by rw [HQ3.out, if_neg G1.out, if_pos G2.out, hv]⟩
          clear hi hv
          go_wp2_with fail
          refine HI.out.mono ?_
          rintro _ w4 ⟨rfl, hb4⟩
          clear xc0 xc1 xc2 xc3 xc4 xc5 xe0 xe1 xe2 xe3 xl0 xl1 xl2 pc0 pc1 pf0 pf1
          replace HB := Keep.mk (HB.out.later hb4)
          clear hb4
          have xc0 := HB.out.c0
          have xc1 := HB.out.c1
          have xc2 := HB.out.c2
          have xc3 := HB.out.c3
          have xc4 := HB.out.c4
          have xc5 := HB.out.c5
          have xe0 := HB.out.e0
          have xe1 := HB.out.e1
          have xe2 := HB.out.e2
          have xe3 := HB.out.e3
          have xl0 := HB.out.l0
          have xl1 := HB.out.l1
          have xl2 := HB.out.l2
          have pc0 : w4.cell? ⟨w.heap.size + 1 + 1, 0, none⟩ = some (.string ⟨#[]⟩) := by simp [World.cell?, HB.out.p]
          have pc1 : w4.cell? ⟨w.heap.size + 1 + 1, 1, none⟩ = some (.int .i64 0) := by simp [World.cell?, HB.out.p]
          have pf0 : w4.frozen? ⟨w.heap.size + 1 + 1, 0, none⟩ = false := by simp [World.frozen?, HB.out.p]
          have pf1 : w4.frozen? ⟨w.heap.size + 1 + 1, 1, none⟩ = false := by simp [World.frozen?, HB.out.p]
          go_wp2_with fail
          have hp := HB.out.put (v1) (v2)
          generalize ((w4.setCell ⟨w.heap.size + 1 + 1, 0, none⟩ (.string (v1))).setCell ⟨w.heap.size + 1 + 1, 1, none⟩ (.int .i64 (v2))) = W at *
          obtain ⟨y0, y1, yb⟩ := hp
          refine bodyPost_ret (v := probV (v1, v2)) (by simp [results, Try.results51, go_sem, y0, y1, probV]) rfl ⟨by rw [HE.out], yb⟩
        have f2 : (op.toList == [101, 108, 101, 109]) = false := by rw [eqs op (k := sElem) (by decide +kernel), decide_eq_false g2]
        have G2 := Keep.mk g2
        clear g2
        by_cases g3 : op = sCall
        · have f3 : (op.toList == [99, 97, 108, 108]) = true := by rw [eqs op (k := sCall) (by decide +kernel), decide_eq_true g3]
          have G3 := Keep.mk g3
          clear g3
          have hi := called_any HS.out op num name ua args.length ucap ns HNL.out d'
          obtain ⟨v1, v2, hv⟩ : ∃ v1 v2, pr (callC c name ns d') = (v1, v2) := ⟨_, _, rfl⟩
          rw [hv] at hi
          unfold probV scV at hi
          have HI := Keep.mk hi
          have HE : Keep (q = (v1, v2)) := ⟨by rw [HQ3.out, if_neg G1.out, if_neg G2.out, if_pos G3.out, hv]⟩
          clear hi hv
          go_wp2_with fail
          refine HI.out.mono ?_
          rintro _ w4 ⟨rfl, hb4⟩
          clear xc0 xc1 xc2 xc3 xc4 xc5 xe0 xe1 xe2 xe3 xl0 xl1 xl2 pc0 pc1 pf0 pf1
          replace HB := Keep.mk (HB.out.later hb4)
          clear hb4
          have xc0 := HB.out.c0
          have xc1 := HB.out.c1
          have xc2 := HB.out.c2
          have xc3 := HB.out.c3
          have xc4 := HB.out.c4
          have xc5 := HB.out.c5
          have xe0 := HB.out.e0
          have xe1 := HB.out.e1
          have xe2 := HB.out.e2
          have xe3 := HB.out.e3
          have xl0 := HB.out.l0
          have xl1 := HB.out.l1
          have xl2 := HB.out.l2
          have pc0 : w4.cell? ⟨w.heap.size + 1 + 1, 0, none⟩ = some (.string ⟨#[]⟩) := by simp [World.cell?, HB.out.p]
          have pc1 : w4.cell? ⟨w.heap.size + 1 + 1, 1, none⟩ = some (.int .i64 0) := by simp [World.cell?, HB.out.p]
          have pf0 : w4.frozen? ⟨w.heap.size + 1 + 1, 0, none⟩ = false := by simp [World.frozen?, HB.out.p]
          have pf1 : w4.frozen? ⟨w.heap.size + 1 + 1, 1, none⟩ = false := by simp [World.frozen?, HB.out.p]
          go_wp2_with fail
          have hp := HB.out.put (v1) (v2)
          generalize ((w4.setCell ⟨w.heap.size + 1 + 1, 0, none⟩ (.string (v1))).setCell ⟨w.heap.size + 1 + 1, 1, none⟩ (.int .i64 (v2))) = W at *
          obtain ⟨y0, y1, yb⟩ := hp
          refine bodyPost_ret (v := probV (v1, v2)) (by simp [results, Try.results51, go_sem, y0, y1, probV]) rfl ⟨by rw [HE.out], yb⟩
        have f3 : (op.toList == [99, 97, 108, 108]) = false := by rw [eqs op (k := sCall) (by decide +kernel), decide_eq_false g3]
        have HE : Keep (q = (⟨#[]⟩, 0)) := ⟨by rw [HQ3.out, if_neg G1.out, if_neg G2.out, if_neg g3]⟩
        clear g3
        go_wp2_with fail
        have hp := HB.out.put (⟨#[]⟩) (0)
        generalize ((wr.setCell ⟨w.heap.size + 1 + 1, 0, none⟩ (.string (⟨#[]⟩))).setCell ⟨w.heap.size + 1 + 1, 1, none⟩ (.int .i64 (0))) = W at *
        obtain ⟨y0, y1, yb⟩ := hp
        refine bodyPost_ret (v := probV (⟨#[]⟩, 0)) (by simp [results, Try.results51, go_sem, y0, y1, probV]) rfl ⟨by rw [HE.out], yb⟩
end Go.Proofs.Ytgimdbflpdmlmaa
