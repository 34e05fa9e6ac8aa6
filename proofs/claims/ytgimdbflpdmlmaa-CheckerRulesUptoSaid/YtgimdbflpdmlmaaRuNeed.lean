/- The reference's Need: the need that the program's check reckons. Condition: bounds. -/
import Derived.Test.YtgimdbflpdmlmaaRuMost
import Derived.Test.YtgimdbflpdmlmaaCkSize
import Derived.StillTailTactics
namespace Go.Proofs.Ytgimdbflpdmlmaa
set_option maxRecDepth 100000
open Go.RowKit Go.Shelf Go.Proofs.Ytgimdbflpdmlmaa.Ck

theorem exprC_parts {c : Cx} {op : BA} {num : Int} {name : BA} {args : List Ex} {d nn d' : Nat} (h : exprC c (.mk op num name args) d = .ok (nn, d')) : shapeB op args.length = true ∧ ∃ ns d1, exprsC c args d = .ok (ns, d1) ∧ ns.length = args.length ∧ opC c op name ns d1 = .ok (nn, d') := by
  rw [exprC] at h
  obtain ⟨_, h1, h⟩ := Res.bind_okay.1 h
  obtain ⟨⟨ns, d1⟩, h2, h⟩ := Res.bind_okay.1 h
  exact ⟨req_okay.1 h1, ns, d1, h2, exprsC_length h2, h⟩
theorem op_need {c : Cx} {op name : BA} {ns : List Nat} {d nn d' : Nat} (h : opC c op name ns d = .ok (nn, d')) (hc : op ≠ sCall) :
    nn = if op = sNum then 1 else if op = sVar then 1 else if op = sElem then 1 + ns.getD 0 0 else if op = sNeg then 1 + ns.getD 0 0 else if op = sNot then max 2 (ns.getD 0 0) else needBin op (ns.getD 0 0) (ns.getD 1 0) := by
  unfold opC at h
  by_cases h0 : op = sNum
  · rw [if_pos h0] at h ⊢; cases h; rfl
  rw [if_neg h0] at h ⊢
  by_cases h1 : op = sVar
  · rw [if_pos h1] at h ⊢; obtain ⟨_, _, h⟩ := Res.bind_okay.1 h; cases h; rfl
  rw [if_neg h1] at h ⊢
  by_cases h2 : op = sElem
  · rw [if_pos h2] at h ⊢; obtain ⟨_, _, h⟩ := Res.bind_okay.1 h; cases h; rfl
  rw [if_neg h2, if_neg hc] at h
  rw [if_neg h2]
  by_cases h3 : op = sNeg
  · rw [if_pos h3] at h ⊢; cases h; rfl
  rw [if_neg h3] at h ⊢
  by_cases h4 : op = sNot
  · rw [if_pos h4] at h ⊢; cases h; rfl
  rw [if_neg h4] at h ⊢
  cases h; rfl
theorem call_need {c : Cx} {name : BA} {ns : List Nat} {d nn d' : Nat} (h : callC c name ns d = .ok (nn, d')) :
    (name = sIn ∧ nn = 1) ∨ (name ≠ sIn ∧ name = sOut ∧ (∃ x, ns = [x] ∧ nn = x)) ∨ (name ≠ sIn ∧ name ≠ sOut ∧ ∃ f, lookF name c.funcs = some f ∧ nn = max (needFrom 0 (ns.length + 1) ns) f.need) := by
  unfold callC at h
  by_cases h1 : name = sIn
  · rw [if_pos h1] at h
    split at h
    · cases h; exact .inl ⟨h1, rfl⟩
    · cases h
  rw [if_neg h1] at h
  by_cases h2 : name = sOut
  · rw [if_pos h2] at h
    split at h
    · rename_i hl
      obtain ⟨x, rfl⟩ := List.length_eq_one_iff.1 hl
      cases h
      exact .inr (.inl ⟨h1, h2, x, rfl, rfl⟩)
    · cases h
  rw [if_neg h2] at h
  cases hf : lookF name c.funcs with
  | none => rw [hf] at h; simp only at h; split at h <;> cases h
  | some f =>
    rw [hf] at h
    simp only at h
    split at h
    · rename_i hl
      cases h
      refine .inr (.inr ⟨h1, h2, f, rfl, ?_⟩)
      rw [hl]
      exact needFrom_max ns 0 (f.params + 1) f.need
    · cases h
theorem opC_call (c : Cx) (name : BA) (ns : List Nat) (d : Nat) : opC c sCall name ns d = callC c name ns d := by
  unfold opC
  rw [if_neg (by decide +kernel), if_neg (by decide +kernel), if_neg (by decide +kernel), if_pos rfl]
theorem shape_one {op : BA} {n : Nat} (h : shapeB op n = true) (ho : op = sElem ∨ op = sNeg ∨ op = sNot) : n = 1 := by
  rcases ho with rfl | rfl | rfl
  · rw [shapeB_of (m := 1) (by decide +kernel)] at h; simp at h; omega
  · rw [shapeB_of (m := 1) (by decide +kernel)] at h; simp at h; omega
  · rw [shapeB_of (m := 1) (by decide +kernel)] at h; simp at h; omega
theorem shape_two {op : BA} {n : Nat} (h : shapeB op n = true) (h1 : op ≠ sNum) (h2 : op ≠ sVar) (h3 : op ≠ sElem) (h4 : op ≠ sNeg) (h5 : op ≠ sNot) (h6 : op ≠ sCall) : n = 2 := by
  by_cases hb : op ∈ binOps
  · rw [shapeB_of (operands_bin hb)] at h; simp at h; omega
  · rw [shapeB_of (operands_none hb h1 h2 h3 h4 h5 h6)] at h; simp at h
set_option maxHeartbeats 32000000 in
theorem need_any {c : Cx} {fu : List Fu} {nds : List Nat} {fv nv : Value} {K0 : Nat} (hs : Small c K0) (hK : K0 ≤ 1000000000) (hnd : ∀ x ∈ nds, x ≤ 1000000000) (hrel : NdRel c fu nds) (n : Nat) : ∀ (e : Ex) (u : Value) (w : World) (d nn d' : Nat), ExsAt w n u e.args → FnsAt w fv fu → Slc w 1 nv nds.length (numCells nds) → e.nodes ≤ 1000000000 → exprC c e d = .ok (nn, d') →
    Calls Try.prog 68 #[.agg #[.string e.op, .int .u32 e.num, .string e.name, u], fv, nv] w fun e' w' => e' = .returned (.int .i64 (nn : Int)) ∧ Below w.heap.size w w' := by
  induction n using Nat.strongRecOn with
  | ind n ih =>
  intro e u w d nn d' hE hF hN hnodes hok
  obtain ⟨op, num, name, args⟩ := e
  change ExsAt w n u args at hE
  change Calls Try.prog 68 #[.agg #[.string op, .int .u32 num, .string name, u], fv, nv] w _
  obtain ⟨ua, ucap, rfl, hu1, hu2⟩ := hE.len
  obtain ⟨fa, fc, rfl, hf1, hf2⟩ := hF.len
  obtain ⟨na, nc, rfl, hn1, hn2, _⟩ := id hN
  have HOK := Keep.mk (exprC_parts hok)
  have HE' := Keep.mk hE
  have HF := Keep.mk hF
  have HN := Keep.mk hN
  have IH := Keep.mk ih
  have hnl : (Ex.mk op num name args).nodes = 1 + nodesL args := by rw [Ex.nodes]
  have HND : Keep (nodesL args ≤ 1000000000) := ⟨by omega⟩
  have hal : args.length ≤ 1000000000 := by have := length_nodesL args; have := HND.out; omega
  have HKE := Keep.mk (And.intro hs (And.intro hK (And.intro hnd hrel)))
  unfold maxLen at hu2 hf2 hn2
  clear hE hF hN ih hok hnl hnodes hs hK hnd hrel
  obtain ⟨i0, hi, hz0, hz1, hz2⟩ := info_parts Try.infoInt
  go_enter Try.func68, Try.ntmps68
  have hX := heap_alloc_new w (.cells #[.string op, .int .u32 num, .string name, .slice ua args.length ucap] 42)
  have hb0 : Below w.heap.size w (w.alloc (.cells #[.string op, .int .u32 num, .string name, .slice ua args.length ucap] 42)) := (Below.refl _ _).alloc (Nat.le_refl _) _
  have hz0' : (w.alloc (.cells #[.string op, .int .u32 num, .string name, .slice ua args.length ucap] 42)).heap.size = w.heap.size + 1 := World.size_alloc ..
  go_upto_region 1 with (fail)
  generalize (w.alloc (.cells #[.string op, .int .u32 num, .string name, .slice ua args.length ucap] 42)) = w0 at *
  have HR0 : Keep ((w0.alloc (.cells #[] 3)).ownsRow (w.heap.size + 1) 3 1 (.slice (some ⟨w0.heap.size, 0, none⟩) 0 0) ([] : List Nat).length (numCells [])) := ⟨World.ownsRow_made (base := w.heap.size + 1) (e := 3) (size := 1) w0 #[] 0 (by omega) (by decide) rfl⟩
  have hb1 : Below w0.heap.size w0 (w0.alloc (.cells #[] 3)) := (Below.refl _ _).alloc (Nat.le_refl _) _
  have HB := Keep.mk (hb0.trans (hb1.mono hb0.size))
  have HX := Keep.mk ((hb1.block w.heap.size (by omega)).trans hX)
  clear hX hb0 hb1 hz0'
  go_upto_region 2 with (fail)
  generalize (w0.alloc (.cells #[] 3)) = w1 at *
  have x3 : w1.cell? ⟨w.heap.size, 3, none⟩ = some (.slice ua args.length ucap) := by simp [World.cell?, HX.out]
  have xl : w.heap.size < w1.heap.size := (Array.getElem?_eq_some_iff.1 HX.out).1
  go_wp2_with fail
  clear x3 xl
  go_loopw [18, 7] (fun i s7 wr => ∃ (k : Nat) (ns : List Nat) (d1 : Nat), k ≤ args.length ∧ i = .int .i64 k ∧ ns.length = k ∧ Keep (exprsC c (args.take k) d = .ok (ns, d1)) ∧ Keep (wr.ownsRow (w.heap.size + 1) 3 1 s7 ns.length (numCells ns)) ∧ Keep (Below w.heap.size w wr) ∧
    Keep (wr.heap[w.heap.size]? = some (.cells #[.string op, .int .u32 num, .string name, .slice ua args.length ucap] 42 (0, 0)))) (fun i _ _ => args.length - (intOf i).toNat)
  case atStart => exact ⟨0, [], d, Nat.zero_le _, rfl, rfl, ⟨by rw [List.take_zero, exprsC_nil]⟩, HR0, HB, HX⟩
  case round =>
    clear HR0 HB HX
    obtain ⟨k, ns, d1, hk, rfl, hnk, HXN, HR, HB, HX⟩ := hrel
    obtain ⟨ra, rc, rfl⟩ := ownsRow_slice HR.out
    by_cases hlt : k < args.length
    · have k0 : (0 : Int) ≤ k := by omega
      have k1 : (k : Int) < args.length := by omega
      obtain ⟨e, hek⟩ : ∃ e, args[k]? = some e := ⟨_, List.getElem?_eq_getElem hlt⟩
      obtain ⟨m, b, o, cap, u, hnm, hua, hb, x0, x1, x2, x3, hu⟩ := HE'.out.get hek
      simp only [Value.slice.injEq, true_and] at hua
      obtain ⟨rfl, rfl⟩ := hua
      have z0 := (HB.out.cell (p := ⟨b, o + k * 4, none⟩) hb).trans x0
      have z1 := (HB.out.cell (p := ⟨b, o + k * 4 + 1, none⟩) hb).trans x1
      have z2 := (HB.out.cell (p := ⟨b, o + k * 4 + 2, none⟩) hb).trans x2
      have z3 := (HB.out.cell (p := ⟨b, o + k * 4 + 3, none⟩) hb).trans x3
      have hbl : b < wr.heap.size := Nat.lt_of_lt_of_le hb HB.out.size
      have HEK := Keep.mk hek
      obtain ⟨uu, ucap', rfl, _, _⟩ := hu.len
      have HU := Keep.mk hu
      have HNK := Keep.mk hnk
      have hnkb : ns.length ≤ 1000000000 := by omega
      clear x0 x1 x2 x3 hek hu hnk
      go_upto_region 5 with (fail)
      have hbs : Below wr.heap.size wr (wr.alloc (.cells #[.string e.op, .int .u32 e.num, .string e.name, .slice uu e.args.length ucap'] 42)) := (Below.refl _ _).alloc (Nat.le_refl _) _
      have hZ : (wr.alloc (.cells #[.string e.op, .int .u32 e.num, .string e.name, .slice uu e.args.length ucap'] 42)).heap[wr.heap.size]? = some (.cells #[.string e.op, .int .u32 e.num, .string e.name, .slice uu e.args.length ucap'] 42 (0, 0)) := heap_alloc_new wr _
      replace HB := Keep.mk (HB.out.trans (hbs.mono HB.out.size))
      replace HX := Keep.mk ((hbs.block w.heap.size (Array.getElem?_eq_some_iff.1 HX.out).1).trans HX.out)
      replace HR : Keep ((wr.alloc (.cells #[.string e.op, .int .u32 e.num, .string e.name, .slice uu e.args.length ucap'] 42)).ownsRow (w.heap.size + 1) 3 1 (.slice ra ns.length rc) ns.length (numCells ns)) := ⟨World.ownsRow.alloc HR.out _⟩
      clear hbs z0 z1 z2 z3 hbl
      obtain ⟨Y, hY⟩ : ∃ Y, Y = wr.heap.size := ⟨_, rfl⟩
      rw [← hY] at hZ ⊢
      clear hY
      generalize (wr.alloc (.cells #[.string e.op, .int .u32 e.num, .string e.name, .slice uu e.args.length ucap'] 42)) = ws at *
      have p0 : ws.cell? ⟨Y, 0, none⟩ = some (.string e.op) := by simp [World.cell?, hZ]
      have p1 : ws.cell? ⟨Y, 1, none⟩ = some (.int .u32 e.num) := by simp [World.cell?, hZ]
      have p2 : ws.cell? ⟨Y, 2, none⟩ = some (.string e.name) := by simp [World.cell?, hZ]
      have p3 : ws.cell? ⟨Y, 3, none⟩ = some (.slice uu e.args.length ucap') := by simp [World.cell?, hZ]
      have pl : Y < ws.heap.size := (Array.getElem?_eq_some_iff.1 hZ).1
      clear hZ
      obtain ⟨ns', d2, hall, _⟩ := HOK.out.2
      have hr : ∃ r, exprC c e d1 = .ok r := by
        cases hx : exprC c e d1 with
        | ok r => exact ⟨r, rfl⟩
        | bad v =>
          have hsplit : args = args.take k ++ e :: args.drop (k + 1) := by
            obtain ⟨hk2, he2⟩ := List.getElem?_eq_some_iff.1 HEK.out
            rw [← he2, ← List.drop_eq_getElem_cons hk2, List.take_append_drop]
          have hbad := exprsC_bad (m := args.drop (k + 1)) HXN.out hx
          rw [← hsplit, hall] at hbad
          cases hbad
      obtain ⟨⟨n1, d3⟩, hr⟩ := hr
      have HX2 : Keep (exprsC c (args.take (k + 1)) d = .ok (ns ++ [n1], d3)) := ⟨by
        rw [List.take_add_one, HEK.out]
        exact exprsC_snoc_ok HXN.out hr⟩
      have HI := Keep.mk (IH.out m (by omega) e _ ws d1 n1 d3 (HU.out.below HB.out (Nat.le_refl _)) (HF.out.below HB.out (Nat.le_refl _)) (HN.out.below HB.out (Nat.le_refl _)) (by have := nodesL_get HEK.out; have := HND.out; omega) hr)
      clear hr hall
      go_wp2_with fail
      refine HI.out.mono ?_
      rintro _ w4 ⟨rfl, hb4⟩
      clear p0 p1 p2 p3 pl HI
      replace HB := Keep.mk (HB.out.trans (hb4.mono HB.out.size))
      replace HX := Keep.mk ((hb4.block w.heap.size (Array.getElem?_eq_some_iff.1 HX.out).1).trans HX.out)
      replace HR : Keep (w4.ownsRow (w.heap.size + 1) 3 1 (.slice ra ns.length rc) ns.length (numCells ns)) := ⟨World.ownsRow.kept HR.out (grown_none hb4) (by cases hq : Value.ownBlock (.slice ra ns.length rc) <;> simp)⟩
      have hxl := (Array.getElem?_eq_some_iff.1 HX.out).1
      clear hb4
      go_wp2_with (at_builtin; go_must ((refine wpList_append_slc rfl _ _ 85 rfl (w.heap.size + 1) 3 i0 (.int .i64 0) 1 8 Try.underlying85 hi hz0 hz1 hz2 rfl (by decide) _ ns.length (numCells ns) rfl (World.ownsRow.alloc HR.out _) _ 1 [.int .i64 (n1 : Int)] rfl (Slc.made (t := 3) [.int .i64 (n1 : Int)] (by decide) rfl) (by simp [Value.oneCell']) (by unfold maxLen; omega) (by omega) (by simp; omega) ?_); intro v5 w5 hown5 hg5 _; have H5 := Keep.mk (And.intro hown5 hg5); clear hown5 hg5))
      have hba : Below w4.heap.size w4 (w4.alloc (.cells #[.int .i64 (n1 : Int)] 3)) := (Below.refl _ _).alloc (Nat.le_refl _) _
      have hrl : ∀ j, Value.ownBlock (.slice ra ns.length rc) = some j → w.heap.size + 1 ≤ j := fun j hj => (World.ownsRow.lt HR.out j hj).1
      have HB5 : Keep (Below w.heap.size w w5) := ⟨(HB.out.trans (hba.mono HB.out.size)).grown H5.out.2 (by have := HB.out.size; simp; omega) (fun j hj => by have := hrl j hj; omega)⟩
      have HX5 := Keep.mk ((H5.out.2.block w.heap.size (by simp; omega) (fun e => by have := hrl _ e.symm; omega)).trans ((hba.block w.heap.size hxl).trans HX.out))
      have HR5 : Keep (w5.ownsRow (w.heap.size + 1) 3 1 v5 (ns ++ [n1]).length (numCells (ns ++ [n1]))) := ⟨by
        have := H5.out.1
        unfold numCells at this ⊢
        rw [List.length_append, List.map_append]
        exact this⟩
      go_roundw
      case rel => exact ⟨k + 1, ns ++ [n1], d3, by omega, by go_num, by have := HNK.out; simp; omega, HX2, HR5, HB5, HX5⟩
      case measure => simp [intOf]; omega
    · obtain rfl : k = args.length := by omega
      rw [List.take_length] at HXN
      have HOP : Keep (shapeB op args.length = true ∧ opC c op name ns d1 = .ok (nn, d')) := ⟨by
        obtain ⟨h1, ns', d2, h2, h3, h4⟩ := HOK.out
        rw [HXN.out] at h2
        cases h2
        exact ⟨h1, h4⟩⟩
      have HNL := Keep.mk hnk
      have hle := exprsC_le HKE.out.1 args d ns d1 HXN.out
      have HNB : Keep (∀ x ∈ ns, x ≤ 10000000000) := ⟨fun x hx => by have := hle.2.1 x hx; have := HKE.out.2.1; have := HND.out; omega⟩
      have HSN := Keep.mk (Slc.of_owns HR.out)
      have x0 : wr.cell? ⟨w.heap.size, 0, none⟩ = some (.string op) := by simp [World.cell?, HX.out]
      have x2 : wr.cell? ⟨w.heap.size, 2, none⟩ = some (.string name) := by simp [World.cell?, HX.out]
      have xl : w.heap.size < wr.heap.size := (Array.getElem?_eq_some_iff.1 HX.out).1
      have hnb : ns.length ≤ 1000000000 := by omega
      clear hlt hk hnk hle HOK
      have HC0 : Keep (∀ {x : BA}, x ≠ sCall → op = x → op ≠ sCall) := ⟨fun h e => by rw [e]; exact h⟩
      by_cases g0 : op = sNum
      · have f0 : (op.toList == [110, 117, 109]) = true := by rw [eqs op (k := sNum) (by decide +kernel), decide_eq_true g0]
        have hne : op ≠ sCall := by rw [g0]; decide +kernel
        have HE : Keep (nn = 1) := ⟨by rw [op_need HOP.out.2 hne, if_pos g0]⟩
        clear g0 hne
        go_wp2_with fail
        go_ret
        exact ⟨by rw [HE.out]; rfl, HB.out⟩
      have f0 : (op.toList == [110, 117, 109]) = false := by rw [eqs op (k := sNum) (by decide +kernel), decide_eq_false g0]
      have G0 := Keep.mk g0
      clear g0
      by_cases g1 : op = sVar
      · have f1 : (op.toList == [118, 97, 114]) = true := by rw [eqs op (k := sVar) (by decide +kernel), decide_eq_true g1]
        have hne : op ≠ sCall := by rw [g1]; decide +kernel
        have HE : Keep (nn = 1) := ⟨by rw [op_need HOP.out.2 hne, if_neg G0.out, if_pos g1]⟩
        clear g1 hne
        go_wp2_with fail
        go_ret
        exact ⟨by rw [HE.out]; rfl, HB.out⟩
      have f1 : (op.toList == [118, 97, 114]) = false := by rw [eqs op (k := sVar) (by decide +kernel), decide_eq_false g1]
      have G1 := Keep.mk g1
      clear g1
      by_cases g2 : op = sElem
      · have f2 : (op.toList == [101, 108, 101, 109]) = true := by rw [eqs op (k := sElem) (by decide +kernel), decide_eq_true g2]
        have hne : op ≠ sCall := by rw [g2]; decide +kernel
        have HE : Keep (nn = 1 + ns.getD 0 0) := ⟨by rw [op_need HOP.out.2 hne, if_neg G0.out, if_neg G1.out, if_pos g2]⟩
        have HSH : Keep (op = sElem ∨ op = sNeg ∨ op = sNot) := ⟨by simp [g2]⟩
        clear g2 hne
        have hl1 : ns.length = 1 := HNL.out.trans (shape_one HOP.out.1 HSH.out)
        obtain ⟨y, rfl⟩ := List.length_eq_one_iff.1 hl1
        obtain ⟨b, o, cap, hv, hb, hc⟩ := num_get HSN.out (i := 0) (x := y) rfl
        simp only [Value.slice.injEq, true_and] at hv
        obtain ⟨rfl, rfl⟩ := hv
        rw [Nat.add_zero] at hc
        have hyb : y ≤ 10000000000 := HNB.out y (by simp)
        have r1 : IntKind.i64.wrap (1 + (y : Int)) = 1 + y := IntWalk.i64_in _ (by omega)
        clear hl1 hb
        go_wp2_with fail
        go_ret
        exact ⟨by rw [HE.out]; simp, HB.out⟩
      have f2 : (op.toList == [101, 108, 101, 109]) = false := by rw [eqs op (k := sElem) (by decide +kernel), decide_eq_false g2]
      have G2 := Keep.mk g2
      clear g2
      by_cases g3 : op = sNeg
      · have f3 : (op.toList == [110, 101, 103]) = true := by rw [eqs op (k := sNeg) (by decide +kernel), decide_eq_true g3]
        have hne : op ≠ sCall := by rw [g3]; decide +kernel
        have HE : Keep (nn = 1 + ns.getD 0 0) := ⟨by rw [op_need HOP.out.2 hne, if_neg G0.out, if_neg G1.out, if_neg G2.out, if_pos g3]⟩
        have HSH : Keep (op = sElem ∨ op = sNeg ∨ op = sNot) := ⟨by simp [g3]⟩
        clear g3 hne
        have hl1 : ns.length = 1 := HNL.out.trans (shape_one HOP.out.1 HSH.out)
        obtain ⟨y, rfl⟩ := List.length_eq_one_iff.1 hl1
        obtain ⟨b, o, cap, hv, hb, hc⟩ := num_get HSN.out (i := 0) (x := y) rfl
        simp only [Value.slice.injEq, true_and] at hv
        obtain ⟨rfl, rfl⟩ := hv
        rw [Nat.add_zero] at hc
        have hyb : y ≤ 10000000000 := HNB.out y (by simp)
        have r1 : IntKind.i64.wrap (1 + (y : Int)) = 1 + y := IntWalk.i64_in _ (by omega)
        clear hl1 hb
        go_wp2_with fail
        go_ret
        exact ⟨by rw [HE.out]; simp, HB.out⟩
      have f3 : (op.toList == [110, 101, 103]) = false := by rw [eqs op (k := sNeg) (by decide +kernel), decide_eq_false g3]
      have G3 := Keep.mk g3
      clear g3
      by_cases g4 : op = sNot
      · have f4 : (op.toList == [110, 111, 116]) = true := by rw [eqs op (k := sNot) (by decide +kernel), decide_eq_true g4]
        have hne : op ≠ sCall := by rw [g4]; decide +kernel
        have HE : Keep (nn = max 2 (ns.getD 0 0)) := ⟨by rw [op_need HOP.out.2 hne, if_neg G0.out, if_neg G1.out, if_neg G2.out, if_neg G3.out, if_pos g4]⟩
        have HSH : Keep (op = sElem ∨ op = sNeg ∨ op = sNot) := ⟨by simp [g4]⟩
        clear g4 hne
        have hl1 : ns.length = 1 := HNL.out.trans (shape_one HOP.out.1 HSH.out)
        obtain ⟨y, rfl⟩ := List.length_eq_one_iff.1 hl1
        obtain ⟨b, o, cap, hv, hb, hc⟩ := num_get HSN.out (i := 0) (x := y) rfl
        simp only [Value.slice.injEq, true_and] at hv
        obtain ⟨rfl, rfl⟩ := hv
        rw [Nat.add_zero] at hc
        have hyb : y ≤ 10000000000 := HNB.out y (by simp)
        have r1 : IntKind.i64.wrap (1 + (y : Int)) = 1 + y := IntWalk.i64_in _ (by omega)
        clear hl1 hb
        go_wp2_with fail
        refine (most2_any (a := 2) (b := y) (Slc.made (t := 3) [.int .i64 2, .int .i64 (y : Int)] (by decide) rfl) (by simp)).mono ?_
        rintro _ w5 ⟨rfl, rfl⟩
        go_wp2_with fail
        go_ret
        exact ⟨by rw [HE.out]; rfl, HB.out.alloc HB.out.size _⟩
      have f4 : (op.toList == [110, 111, 116]) = false := by rw [eqs op (k := sNot) (by decide +kernel), decide_eq_false g4]
      have G4 := Keep.mk g4
      clear g4
      by_cases g5 : op = sGt
      · have f5 : (op.toList == [62]) = true := by rw [eqs op (k := sGt) (by decide +kernel), decide_eq_true g5]
        have HNC : Keep (op ≠ sCall) := ⟨by rw [g5]; decide +kernel⟩
        have HE : Keep (nn = max 3 (max (ns.getD 0 0) (1 + ns.getD 1 0))) := ⟨by rw [op_need HOP.out.2 HNC.out, if_neg G0.out, if_neg G1.out, if_neg G2.out, if_neg G3.out, if_neg G4.out]; unfold needBin; rw [if_pos (.inl g5)]⟩
        clear g5
        have hl2 : ns.length = 2 := HNL.out.trans (shape_two HOP.out.1 G0.out G1.out G2.out G3.out G4.out HNC.out)
        obtain ⟨y, z, rfl⟩ : ∃ y z, ns = [y, z] := by
          match ns, hl2 with
          | [y, z], _ => exact ⟨y, z, rfl⟩
        obtain ⟨b, o, cap, hv, hb, hc⟩ := num_get HSN.out (i := 0) (x := y) rfl
        have hcz : wr.cell? ⟨b, o + 1, none⟩ = some (.int .i64 (z : Int)) := by
          obtain ⟨b', o', cap', hv', hb', hc'⟩ := num_get HSN.out (i := 1) (x := z) rfl
          rw [hv] at hv'
          simp only [Value.slice.injEq, true_and, Option.some.injEq, Addr.mk.injEq] at hv'
          obtain ⟨⟨rfl, rfl, _⟩, _⟩ := hv'
          exact hc'
        simp only [Value.slice.injEq, true_and] at hv
        obtain ⟨rfl, rfl⟩ := hv
        rw [Nat.add_zero] at hc
        have hyb : y ≤ 10000000000 := HNB.out y (by simp)
        have hzb : z ≤ 10000000000 := HNB.out z (by simp)
        have HSS : Keep (∀ w', Below wr.heap.size wr w' → (w'.cell? ⟨b, o, none⟩ = some (.int .i64 (y : Int)) ∧ w'.cell? ⟨b, o + 1, none⟩ = some (.int .i64 (z : Int))) ∧ Below wr.heap.size wr w') := ⟨fun w' h => ⟨⟨(h.cell (p := ⟨b, o, none⟩) hb).trans hc, (h.cell (p := ⟨b, o + 1, none⟩) hb).trans hcz⟩, h⟩⟩
        have r1 : IntKind.i64.wrap (1 + (y : Int)) = 1 + y := IntWalk.i64_in _ (by omega)
        have r2 : IntKind.i64.wrap (1 + (z : Int)) = 1 + z := IntWalk.i64_in _ (by omega)
        have r3 : IntKind.i64.wrap (2 + (y : Int)) = 2 + y := IntWalk.i64_in _ (by omega)
        have r4 : IntKind.i64.wrap (2 + (z : Int)) = 2 + z := IntWalk.i64_in _ (by omega)
        have r5 : IntKind.i64.wrap (3 + (z : Int)) = 3 + z := IntWalk.i64_in _ (by omega)
        clear hl2 hb hc hcz hyb hzb
        go_wp2_with fail
        go_region_held3 (fun w' => (w'.cell? ⟨b, o, none⟩ = some (.int .i64 (y : Int)) ∧ w'.cell? ⟨b, o + 1, none⟩ = some (.int .i64 (z : Int))) ∧ Below wr.heap.size wr w')
          (first | with_reducible exact HSS.out _ (Below.refl wr.heap.size wr).drew | with_reducible exact HSS.out _ (Below.refl wr.heap.size wr) | with_reducible assumption | (refine HSS.out _ ?_; (repeat' (first | with_reducible exact Below.refl _ _ | with_reducible refine Below.drew ?_ | with_reducible refine Below.alloc ?_ ?_ _ | (simp; done))); done))
          ((go_at_call 54; (refine (most3_any (a := 3) (b := y) (c := 1 + z) ((Slc.made (w := wr) (t := 3) [.int .i64 (3), .int .i64 ((y : Int)), .int .i64 (1 + (z : Int))] (by decide) rfl).below ((Below.refl _ _).drew) (Nat.le_refl _)) (by simp)).mono ?_); rintro _ w5 ⟨rfl, rfl⟩))
        all_goals (
          go_wp2_with fail
          go_ret
          refine ⟨by rw [HE.out]; rfl, ?_⟩
          exact HB.out.trans ((show Below wr.heap.size wr _ from (by repeat' (first | with_reducible exact Below.refl _ _ | with_reducible refine Below.drew ?_ | with_reducible refine Below.alloc ?_ ?_ _ | (simp; done)))).mono HB.out.size))
      have f5 : (op.toList == [62]) = false := by rw [eqs op (k := sGt) (by decide +kernel), decide_eq_false g5]
      have G5 := Keep.mk g5
      clear g5
      by_cases g6 : op = sLe
      · have f6 : (op.toList == [60, 61]) = true := by rw [eqs op (k := sLe) (by decide +kernel), decide_eq_true g6]
        have HNC : Keep (op ≠ sCall) := ⟨by rw [g6]; decide +kernel⟩
        have HE : Keep (nn = max 3 (max (ns.getD 0 0) (1 + ns.getD 1 0))) := ⟨by rw [op_need HOP.out.2 HNC.out, if_neg G0.out, if_neg G1.out, if_neg G2.out, if_neg G3.out, if_neg G4.out]; unfold needBin; rw [if_pos (.inr g6)]⟩
        clear g6
        have hl2 : ns.length = 2 := HNL.out.trans (shape_two HOP.out.1 G0.out G1.out G2.out G3.out G4.out HNC.out)
        obtain ⟨y, z, rfl⟩ : ∃ y z, ns = [y, z] := by
          match ns, hl2 with
          | [y, z], _ => exact ⟨y, z, rfl⟩
        obtain ⟨b, o, cap, hv, hb, hc⟩ := num_get HSN.out (i := 0) (x := y) rfl
        have hcz : wr.cell? ⟨b, o + 1, none⟩ = some (.int .i64 (z : Int)) := by
          obtain ⟨b', o', cap', hv', hb', hc'⟩ := num_get HSN.out (i := 1) (x := z) rfl
          rw [hv] at hv'
          simp only [Value.slice.injEq, true_and, Option.some.injEq, Addr.mk.injEq] at hv'
          obtain ⟨⟨rfl, rfl, _⟩, _⟩ := hv'
          exact hc'
        simp only [Value.slice.injEq, true_and] at hv
        obtain ⟨rfl, rfl⟩ := hv
        rw [Nat.add_zero] at hc
        have hyb : y ≤ 10000000000 := HNB.out y (by simp)
        have hzb : z ≤ 10000000000 := HNB.out z (by simp)
        have HSS : Keep (∀ w', Below wr.heap.size wr w' → (w'.cell? ⟨b, o, none⟩ = some (.int .i64 (y : Int)) ∧ w'.cell? ⟨b, o + 1, none⟩ = some (.int .i64 (z : Int))) ∧ Below wr.heap.size wr w') := ⟨fun w' h => ⟨⟨(h.cell (p := ⟨b, o, none⟩) hb).trans hc, (h.cell (p := ⟨b, o + 1, none⟩) hb).trans hcz⟩, h⟩⟩
        have r1 : IntKind.i64.wrap (1 + (y : Int)) = 1 + y := IntWalk.i64_in _ (by omega)
        have r2 : IntKind.i64.wrap (1 + (z : Int)) = 1 + z := IntWalk.i64_in _ (by omega)
        have r3 : IntKind.i64.wrap (2 + (y : Int)) = 2 + y := IntWalk.i64_in _ (by omega)
        have r4 : IntKind.i64.wrap (2 + (z : Int)) = 2 + z := IntWalk.i64_in _ (by omega)
        have r5 : IntKind.i64.wrap (3 + (z : Int)) = 3 + z := IntWalk.i64_in _ (by omega)
        clear hl2 hb hc hcz hyb hzb
        go_wp2_with fail
        go_region_held3 (fun w' => (w'.cell? ⟨b, o, none⟩ = some (.int .i64 (y : Int)) ∧ w'.cell? ⟨b, o + 1, none⟩ = some (.int .i64 (z : Int))) ∧ Below wr.heap.size wr w')
          (first | with_reducible exact HSS.out _ (Below.refl wr.heap.size wr).drew | with_reducible exact HSS.out _ (Below.refl wr.heap.size wr) | with_reducible assumption | (refine HSS.out _ ?_; (repeat' (first | with_reducible exact Below.refl _ _ | with_reducible refine Below.drew ?_ | with_reducible refine Below.alloc ?_ ?_ _ | (simp; done))); done))
          ((go_at_call 54; (refine (most3_any (a := 3) (b := y) (c := 1 + z) ((Slc.made (w := wr) (t := 3) [.int .i64 (3), .int .i64 ((y : Int)), .int .i64 (1 + (z : Int))] (by decide) rfl).below ((Below.refl _ _).drew) (Nat.le_refl _)) (by simp)).mono ?_); rintro _ w5 ⟨rfl, rfl⟩))
        all_goals (
          go_wp2_with fail
          go_ret
          refine ⟨by rw [HE.out]; rfl, ?_⟩
          exact HB.out.trans ((show Below wr.heap.size wr _ from (by repeat' (first | with_reducible exact Below.refl _ _ | with_reducible refine Below.drew ?_ | with_reducible refine Below.alloc ?_ ?_ _ | (simp; done)))).mono HB.out.size))
      have f6 : (op.toList == [60, 61]) = false := by rw [eqs op (k := sLe) (by decide +kernel), decide_eq_false g6]
      have G6 := Keep.mk g6
      clear g6
      by_cases g7 : op = sNe
      · have f7 : (op.toList == [33, 61]) = true := by rw [eqs op (k := sNe) (by decide +kernel), decide_eq_true g7]
        have HNC : Keep (op ≠ sCall) := ⟨by rw [g7]; decide +kernel⟩
        have HE : Keep (nn = max 3 (max (1 + ns.getD 0 0) (2 + ns.getD 1 0))) := ⟨by rw [op_need HOP.out.2 HNC.out, if_neg G0.out, if_neg G1.out, if_neg G2.out, if_neg G3.out, if_neg G4.out]; unfold needBin; rw [if_neg (fun h => h.elim G5.out G6.out), if_pos g7]⟩
        clear g7
        have hl2 : ns.length = 2 := HNL.out.trans (shape_two HOP.out.1 G0.out G1.out G2.out G3.out G4.out HNC.out)
        obtain ⟨y, z, rfl⟩ : ∃ y z, ns = [y, z] := by
          match ns, hl2 with
          | [y, z], _ => exact ⟨y, z, rfl⟩
        obtain ⟨b, o, cap, hv, hb, hc⟩ := num_get HSN.out (i := 0) (x := y) rfl
        have hcz : wr.cell? ⟨b, o + 1, none⟩ = some (.int .i64 (z : Int)) := by
          obtain ⟨b', o', cap', hv', hb', hc'⟩ := num_get HSN.out (i := 1) (x := z) rfl
          rw [hv] at hv'
          simp only [Value.slice.injEq, true_and, Option.some.injEq, Addr.mk.injEq] at hv'
          obtain ⟨⟨rfl, rfl, _⟩, _⟩ := hv'
          exact hc'
        simp only [Value.slice.injEq, true_and] at hv
        obtain ⟨rfl, rfl⟩ := hv
        rw [Nat.add_zero] at hc
        have hyb : y ≤ 10000000000 := HNB.out y (by simp)
        have hzb : z ≤ 10000000000 := HNB.out z (by simp)
        have HSS : Keep (∀ w', Below wr.heap.size wr w' → (w'.cell? ⟨b, o, none⟩ = some (.int .i64 (y : Int)) ∧ w'.cell? ⟨b, o + 1, none⟩ = some (.int .i64 (z : Int))) ∧ Below wr.heap.size wr w') := ⟨fun w' h => ⟨⟨(h.cell (p := ⟨b, o, none⟩) hb).trans hc, (h.cell (p := ⟨b, o + 1, none⟩) hb).trans hcz⟩, h⟩⟩
        have r1 : IntKind.i64.wrap (1 + (y : Int)) = 1 + y := IntWalk.i64_in _ (by omega)
        have r2 : IntKind.i64.wrap (1 + (z : Int)) = 1 + z := IntWalk.i64_in _ (by omega)
        have r3 : IntKind.i64.wrap (2 + (y : Int)) = 2 + y := IntWalk.i64_in _ (by omega)
        have r4 : IntKind.i64.wrap (2 + (z : Int)) = 2 + z := IntWalk.i64_in _ (by omega)
        have r5 : IntKind.i64.wrap (3 + (z : Int)) = 3 + z := IntWalk.i64_in _ (by omega)
        clear hl2 hb hc hcz hyb hzb
        go_wp2_with fail
        go_region_held3 (fun w' => (w'.cell? ⟨b, o, none⟩ = some (.int .i64 (y : Int)) ∧ w'.cell? ⟨b, o + 1, none⟩ = some (.int .i64 (z : Int))) ∧ Below wr.heap.size wr w')
          (first | with_reducible exact HSS.out _ (Below.refl wr.heap.size wr).drew | with_reducible exact HSS.out _ (Below.refl wr.heap.size wr) | with_reducible assumption | (refine HSS.out _ ?_; (repeat' (first | with_reducible exact Below.refl _ _ | with_reducible refine Below.drew ?_ | with_reducible refine Below.alloc ?_ ?_ _ | (simp; done))); done))
          ((go_at_call 54; (refine (most3_any (a := 3) (b := 1 + y) (c := 2 + z) ((Slc.made (w := wr) (t := 3) [.int .i64 (3), .int .i64 (1 + (y : Int)), .int .i64 (2 + (z : Int))] (by decide) rfl).below ((Below.refl _ _).drew) (Nat.le_refl _)) (by simp)).mono ?_); rintro _ w5 ⟨rfl, rfl⟩))
        all_goals (
          go_wp2_with fail
          go_ret
          refine ⟨by rw [HE.out]; rfl, ?_⟩
          exact HB.out.trans ((show Below wr.heap.size wr _ from (by repeat' (first | with_reducible exact Below.refl _ _ | with_reducible refine Below.drew ?_ | with_reducible refine Below.alloc ?_ ?_ _ | (simp; done)))).mono HB.out.size))
      have f7 : (op.toList == [33, 61]) = false := by rw [eqs op (k := sNe) (by decide +kernel), decide_eq_false g7]
      have G7 := Keep.mk g7
      clear g7
      by_cases g8 : op = sAnd
      · have f8 : (op.toList == [38, 38]) = true := by rw [eqs op (k := sAnd) (by decide +kernel), decide_eq_true g8]
        have HNC : Keep (op ≠ sCall) := ⟨by rw [g8]; decide +kernel⟩
        have HE : Keep (nn = max (1 + ns.getD 0 0) (2 + ns.getD 1 0)) := ⟨by rw [op_need HOP.out.2 HNC.out, if_neg G0.out, if_neg G1.out, if_neg G2.out, if_neg G3.out, if_neg G4.out]; unfold needBin; rw [if_neg (fun h => h.elim G5.out G6.out), if_neg G7.out, if_pos g8]⟩
        clear g8
        have hl2 : ns.length = 2 := HNL.out.trans (shape_two HOP.out.1 G0.out G1.out G2.out G3.out G4.out HNC.out)
        obtain ⟨y, z, rfl⟩ : ∃ y z, ns = [y, z] := by
          match ns, hl2 with
          | [y, z], _ => exact ⟨y, z, rfl⟩
        obtain ⟨b, o, cap, hv, hb, hc⟩ := num_get HSN.out (i := 0) (x := y) rfl
        have hcz : wr.cell? ⟨b, o + 1, none⟩ = some (.int .i64 (z : Int)) := by
          obtain ⟨b', o', cap', hv', hb', hc'⟩ := num_get HSN.out (i := 1) (x := z) rfl
          rw [hv] at hv'
          simp only [Value.slice.injEq, true_and, Option.some.injEq, Addr.mk.injEq] at hv'
          obtain ⟨⟨rfl, rfl, _⟩, _⟩ := hv'
          exact hc'
        simp only [Value.slice.injEq, true_and] at hv
        obtain ⟨rfl, rfl⟩ := hv
        rw [Nat.add_zero] at hc
        have hyb : y ≤ 10000000000 := HNB.out y (by simp)
        have hzb : z ≤ 10000000000 := HNB.out z (by simp)
        have HSS : Keep (∀ w', Below wr.heap.size wr w' → (w'.cell? ⟨b, o, none⟩ = some (.int .i64 (y : Int)) ∧ w'.cell? ⟨b, o + 1, none⟩ = some (.int .i64 (z : Int))) ∧ Below wr.heap.size wr w') := ⟨fun w' h => ⟨⟨(h.cell (p := ⟨b, o, none⟩) hb).trans hc, (h.cell (p := ⟨b, o + 1, none⟩) hb).trans hcz⟩, h⟩⟩
        have r1 : IntKind.i64.wrap (1 + (y : Int)) = 1 + y := IntWalk.i64_in _ (by omega)
        have r2 : IntKind.i64.wrap (1 + (z : Int)) = 1 + z := IntWalk.i64_in _ (by omega)
        have r3 : IntKind.i64.wrap (2 + (y : Int)) = 2 + y := IntWalk.i64_in _ (by omega)
        have r4 : IntKind.i64.wrap (2 + (z : Int)) = 2 + z := IntWalk.i64_in _ (by omega)
        have r5 : IntKind.i64.wrap (3 + (z : Int)) = 3 + z := IntWalk.i64_in _ (by omega)
        clear hl2 hb hc hcz hyb hzb
        go_wp2_with fail
        go_region_held3 (fun w' => (w'.cell? ⟨b, o, none⟩ = some (.int .i64 (y : Int)) ∧ w'.cell? ⟨b, o + 1, none⟩ = some (.int .i64 (z : Int))) ∧ Below wr.heap.size wr w')
          (first | with_reducible exact HSS.out _ (Below.refl wr.heap.size wr).drew | with_reducible exact HSS.out _ (Below.refl wr.heap.size wr) | with_reducible assumption | (refine HSS.out _ ?_; (repeat' (first | with_reducible exact Below.refl _ _ | with_reducible refine Below.drew ?_ | with_reducible refine Below.alloc ?_ ?_ _ | (simp; done))); done))
          ((go_at_call 54; (refine (most2_any (a := 1 + y) (b := 2 + z) ((Slc.made (w := wr) (t := 3) [.int .i64 (1 + (y : Int)), .int .i64 (2 + (z : Int))] (by decide) rfl).below ((Below.refl _ _).drew) (Nat.le_refl _)) (by simp)).mono ?_); rintro _ w5 ⟨rfl, rfl⟩))
        all_goals (
          go_wp2_with fail
          go_ret
          refine ⟨by rw [HE.out]; rfl, ?_⟩
          exact HB.out.trans ((show Below wr.heap.size wr _ from (by repeat' (first | with_reducible exact Below.refl _ _ | with_reducible refine Below.drew ?_ | with_reducible refine Below.alloc ?_ ?_ _ | (simp; done)))).mono HB.out.size))
      have f8 : (op.toList == [38, 38]) = false := by rw [eqs op (k := sAnd) (by decide +kernel), decide_eq_false g8]
      have G8 := Keep.mk g8
      clear g8
      by_cases g9 : op = sOr
      · have f9 : (op.toList == [124, 124]) = true := by rw [eqs op (k := sOr) (by decide +kernel), decide_eq_true g9]
        have HNC : Keep (op ≠ sCall) := ⟨by rw [g9]; decide +kernel⟩
        have HE : Keep (nn = max (2 + ns.getD 0 0) (3 + ns.getD 1 0)) := ⟨by rw [op_need HOP.out.2 HNC.out, if_neg G0.out, if_neg G1.out, if_neg G2.out, if_neg G3.out, if_neg G4.out]; unfold needBin; rw [if_neg (fun h => h.elim G5.out G6.out), if_neg G7.out, if_neg G8.out, if_pos g9]⟩
        clear g9
        have hl2 : ns.length = 2 := HNL.out.trans (shape_two HOP.out.1 G0.out G1.out G2.out G3.out G4.out HNC.out)
        obtain ⟨y, z, rfl⟩ : ∃ y z, ns = [y, z] := by
          match ns, hl2 with
          | [y, z], _ => exact ⟨y, z, rfl⟩
        obtain ⟨b, o, cap, hv, hb, hc⟩ := num_get HSN.out (i := 0) (x := y) rfl
        have hcz : wr.cell? ⟨b, o + 1, none⟩ = some (.int .i64 (z : Int)) := by
          obtain ⟨b', o', cap', hv', hb', hc'⟩ := num_get HSN.out (i := 1) (x := z) rfl
          rw [hv] at hv'
          simp only [Value.slice.injEq, true_and, Option.some.injEq, Addr.mk.injEq] at hv'
          obtain ⟨⟨rfl, rfl, _⟩, _⟩ := hv'
          exact hc'
        simp only [Value.slice.injEq, true_and] at hv
        obtain ⟨rfl, rfl⟩ := hv
        rw [Nat.add_zero] at hc
        have hyb : y ≤ 10000000000 := HNB.out y (by simp)
        have hzb : z ≤ 10000000000 := HNB.out z (by simp)
        have HSS : Keep (∀ w', Below wr.heap.size wr w' → (w'.cell? ⟨b, o, none⟩ = some (.int .i64 (y : Int)) ∧ w'.cell? ⟨b, o + 1, none⟩ = some (.int .i64 (z : Int))) ∧ Below wr.heap.size wr w') := ⟨fun w' h => ⟨⟨(h.cell (p := ⟨b, o, none⟩) hb).trans hc, (h.cell (p := ⟨b, o + 1, none⟩) hb).trans hcz⟩, h⟩⟩
        have r1 : IntKind.i64.wrap (1 + (y : Int)) = 1 + y := IntWalk.i64_in _ (by omega)
        have r2 : IntKind.i64.wrap (1 + (z : Int)) = 1 + z := IntWalk.i64_in _ (by omega)
        have r3 : IntKind.i64.wrap (2 + (y : Int)) = 2 + y := IntWalk.i64_in _ (by omega)
        have r4 : IntKind.i64.wrap (2 + (z : Int)) = 2 + z := IntWalk.i64_in _ (by omega)
        have r5 : IntKind.i64.wrap (3 + (z : Int)) = 3 + z := IntWalk.i64_in _ (by omega)
        clear hl2 hb hc hcz hyb hzb
        go_wp2_with fail
        go_region_held3 (fun w' => (w'.cell? ⟨b, o, none⟩ = some (.int .i64 (y : Int)) ∧ w'.cell? ⟨b, o + 1, none⟩ = some (.int .i64 (z : Int))) ∧ Below wr.heap.size wr w')
          (first | with_reducible exact HSS.out _ (Below.refl wr.heap.size wr).drew | with_reducible exact HSS.out _ (Below.refl wr.heap.size wr) | with_reducible assumption | (refine HSS.out _ ?_; (repeat' (first | with_reducible exact Below.refl _ _ | with_reducible refine Below.drew ?_ | with_reducible refine Below.alloc ?_ ?_ _ | (simp; done))); done))
          ((go_at_call 54; (refine (most2_any (a := 2 + y) (b := 3 + z) ((Slc.made (w := wr) (t := 3) [.int .i64 (2 + (y : Int)), .int .i64 (3 + (z : Int))] (by decide) rfl).below ((Below.refl _ _).drew) (Nat.le_refl _)) (by simp)).mono ?_); rintro _ w5 ⟨rfl, rfl⟩))
        all_goals (
          go_wp2_with fail
          go_ret
          refine ⟨by rw [HE.out]; rfl, ?_⟩
          exact HB.out.trans ((show Below wr.heap.size wr _ from (by repeat' (first | with_reducible exact Below.refl _ _ | with_reducible refine Below.drew ?_ | with_reducible refine Below.alloc ?_ ?_ _ | (simp; done)))).mono HB.out.size))
      have f9 : (op.toList == [124, 124]) = false := by rw [eqs op (k := sOr) (by decide +kernel), decide_eq_false g9]
      have G9 := Keep.mk g9
      clear g9
      by_cases g10 : op = sCall
      · have f10 : (op.toList == [99, 97, 108, 108]) = true := by rw [eqs op (k := sCall) (by decide +kernel), decide_eq_true g10]
        have HCN := Keep.mk (call_need (c := c) (name := name) (ns := ns) (d := d1) (nn := nn) (d' := d') (by have := HOP.out.2; rw [g10, opC_call] at this; exact this))
        clear g10
        rcases HCN.out with ⟨h1, h2⟩ | ⟨h1, h2, y, rfl, h3⟩ | ⟨h1, h2, f, hf, h3⟩
        · have e1 : (name.toList == [105, 110]) = true := by rw [eqs name (k := sIn) (by decide +kernel), decide_eq_true h1]
          have HE := Keep.mk h2
          clear h1 h2
          go_wp2_with fail
          go_ret
          exact ⟨by rw [HE.out]; rfl, HB.out⟩
        · have e1 : (name.toList == [105, 110]) = false := by rw [eqs name (k := sIn) (by decide +kernel), decide_eq_false h1]
          have e2 : (name.toList == [111, 117, 116]) = true := by rw [eqs name (k := sOut) (by decide +kernel), decide_eq_true h2]
          have HE := Keep.mk h3
          obtain ⟨b, o, cap, hv, hb, hc⟩ := num_get HSN.out (i := 0) (x := y) rfl
          simp only [Value.slice.injEq, true_and] at hv
          obtain ⟨rfl, rfl⟩ := hv
          rw [Nat.add_zero] at hc
          clear h1 h2 h3 hb
          go_wp2_with fail
          go_ret
          exact ⟨by rw [HE.out]; rfl, HB.out⟩
        · have e1 : (name.toList == [105, 110]) = false := by rw [eqs name (k := sIn) (by decide +kernel), decide_eq_false h1]
          have e2 : (name.toList == [111, 117, 116]) = false := by rw [eqs name (k := sOut) (by decide +kernel), decide_eq_false h2]
          have HE := Keep.mk h3
          have HLF := Keep.mk hf
          have s1 : IntKind.i64.wrap ((ns.length : Int) + 1) = ns.length + 1 := IntWalk.i64_in _ (by omega)
          have hm0 : (ns.length : Int) + 1 = ((ns.length + 1 : Nat) : Int) := by omega
          have HM0 := Keep.mk hm0
          clear h1 h2 h3 hf hm0
          generalize wr = wo at *
          go_wp2_with fail
          clear x0 x2 xl s1
          go_loopw [113, 10] (fun i s wl => ∃ k : Nat, k ≤ ns.length ∧ i = .int .i64 k ∧ s = .int .i64 ((needFrom 0 (ns.length + 1) (ns.take k) : Nat) : Int) ∧ Keep (Below wo.heap.size wo wl)) (fun i _ _ => ns.length - (intOf i).toNat)
          case atStart => exact ⟨0, Nat.zero_le _, rfl, by rw [List.take_zero]; simp [needFrom], ⟨Below.refl _ _⟩⟩
          case round =>
            obtain ⟨k, hk, rfl, rfl, HBl⟩ := hrel
            by_cases hlt : k < ns.length
            · have k0 : (0 : Int) ≤ k := by omega
              have k1 : (k : Int) < ns.length := by omega
              obtain ⟨y, hy⟩ : ∃ y, ns[k]? = some y := ⟨_, List.getElem?_eq_getElem hlt⟩
              obtain ⟨b, o, cap, hv, hb, hc⟩ := num_get HSN.out hy
              simp only [Value.slice.injEq, true_and] at hv
              obtain ⟨rfl, rfl⟩ := hv
              have hc := (HBl.out.cell (p := ⟨b, o + k, none⟩) hb).trans hc
              have hbl : b < wr.heap.size := Nat.lt_of_lt_of_le hb HBl.out.size
              have hst : Keep (needFrom 0 (ns.length + 1) (ns.take (k + 1)) = max (needFrom 0 (ns.length + 1) (ns.take k)) (k + y)) := ⟨by
                rw [List.take_add_one, hy, Option.toList_some, needFrom_snoc, List.length_take, Nat.zero_add, Nat.min_eq_left hk]⟩
              have hle : needFrom 0 (ns.length + 1) (ns.take k) ≤ 20000000000 := needFrom_le _ 0 _ (by omega) (fun x hx => by have := HNB.out x (List.mem_of_mem_take hx); rw [List.length_take]; omega)
              have hyb : y ≤ 10000000000 := HNB.out y (List.mem_of_getElem? hy)
              have r1 : IntKind.i64.wrap ((k : Int) + (y : Int)) = k + y := IntWalk.i64_in _ (by omega)
              generalize needFrom 0 (ns.length + 1) (ns.take k) = q at *
              clear hy hb
              go_wp2_with fail
              refine (most2_any (a := q) (b := k + y) (Slc.made (t := 3) [.int .i64 (q : Int), .int .i64 ((k : Int) + (y : Int))] (by decide) rfl) (by simp)).mono ?_
              rintro _ w5 ⟨rfl, rfl⟩
              go_wp2_with fail
              go_roundw
              case rel => exact ⟨k + 1, by omega, by go_num, by rw [hst.out], ⟨HBl.out.alloc HBl.out.size _⟩⟩
              case measure => simp [intOf]; omega
            · obtain rfl : k = ns.length := by omega
              rw [List.take_length]
              have HMB : Keep (needFrom 0 (ns.length + 1) ns ≤ 20000000000) := ⟨needFrom_le _ 0 _ (by omega) (fun x hx => by have := HNB.out x hx; omega)⟩
              have HXo := Keep.mk ((HBl.out.block w.heap.size (Array.getElem?_eq_some_iff.1 HX.out).1).trans HX.out)
              have HBo := Keep.mk (HB.out.trans (HBl.out.mono HB.out.size))
              obtain ⟨j, g, hj, hgn, hnj, huq⟩ := HKE.out.2.2.2.is name f HLF.out
              have HJ := Keep.mk (And.intro hj (And.intro hgn (And.intro hnj huq)))
              have HFN : Keep (f.need ≤ 1000000000) := ⟨HKE.out.2.2.1 _ (List.mem_of_getElem? hnj)⟩
              have HNE : Keep (nn = max (needFrom 0 (ns.length + 1) ns) f.need) := HE
              clear hlt hk hj hgn hnj huq HBl HB HX HE HSN HR
              generalize needFrom 0 (ns.length + 1) ns = M at *
              generalize f.need = fn at *
              generalize wr = wo2 at *
              go_wp2_with fail
              go_loopw [128, 10] (fun i s wl => ∃ k : Nat, k ≤ fu.length ∧ i = .int .i64 k ∧ s = .int .i64 ((if j < k then max M fn else M : Nat) : Int) ∧ Keep (Below wo2.heap.size wo2 wl)) (fun i _ _ => fu.length - (intOf i).toNat)
              case atStart => exact ⟨0, Nat.zero_le _, rfl, by simp, ⟨Below.refl _ _⟩⟩
              case round =>
                obtain ⟨k, hk, rfl, rfl, HBl⟩ := hrel
                by_cases hlt : k < fu.length
                · have k0 : (0 : Int) ≤ k := by omega
                  have k1' : (k : Int) < fu.length := by omega
                  obtain ⟨g', hfk⟩ : ∃ g', fu[k]? = some g' := ⟨_, List.getElem?_eq_getElem hlt⟩
                  obtain ⟨b, o, cap, up, ul, ub, hv, hb, y0, y1, y2, y3, hS1, hS2, mb, hS3⟩ := HF.out.get hfk
                  simp only [Value.slice.injEq, true_and] at hv
                  obtain ⟨rfl, rfl⟩ := hv
                  have HBw := Keep.mk (HBo.out.trans (HBl.out.mono HBo.out.size))
                  have z0 := (HBw.out.cell (p := ⟨b, o + k * 4, none⟩) hb).trans y0
                  have z1 := (HBw.out.cell (p := ⟨b, o + k * 4 + 1, none⟩) hb).trans y1
                  have z2 := (HBw.out.cell (p := ⟨b, o + k * 4 + 2, none⟩) hb).trans y2
                  have z3 := (HBw.out.cell (p := ⟨b, o + k * 4 + 3, none⟩) hb).trans y3
                  have hbl : b < wr.heap.size := Nat.lt_of_lt_of_le hb HBw.out.size
                  obtain ⟨b1, d1', rfl, _, _⟩ := hS1.len
                  obtain ⟨b2, d2', rfl, _, _⟩ := hS2.len
                  obtain ⟨b3, d3', rfl, _, _⟩ := hS3.len
                  have hXr := (HBl.out.block w.heap.size (Array.getElem?_eq_some_iff.1 HXo.out).1).trans HXo.out
                  have x2 : wr.cell? ⟨w.heap.size, 2, none⟩ = some (.string name) := by simp [World.cell?, hXr]
                  have xl : w.heap.size < wr.heap.size := (Array.getElem?_eq_some_iff.1 hXr).1
                  have HBz : Keep (Below wo2.heap.size wo2 (wr.alloc (.cells #[.string g'.name, .slice b1 g'.params.length d1', .slice b2 g'.locals.length d2', .slice b3 g'.body.length d3'] 36))) := ⟨HBl.out.alloc HBl.out.size _⟩
                  have HFK := Keep.mk hfk
                  clear y0 y1 y2 y3 hS1 hS2 hS3 hXr hfk hb
                  by_cases hn : g'.name = name
                  · have q1 : (g'.name.toList == name.toList) = true := by rw [toList_beq, decide_eq_true hn]
                    have hkj : k = j := HJ.out.2.2.2 k g' HFK.out hn
                    have hnk : nds[k]? = some fn := by rw [hkj]; exact HJ.out.2.2.1
                    obtain ⟨nb, no, ncap, hv, hnb', hnc⟩ := num_get HN.out hnk
                    simp only [Value.slice.injEq, true_and] at hv
                    obtain ⟨rfl, rfl⟩ := hv
                    have n0 := (HBw.out.cell (p := ⟨nb, no + k, none⟩) hnb').trans hnc
                    have nl : nb < wr.heap.size := Nat.lt_of_lt_of_le hnb' HBw.out.size
                    have n1 : (k : Int) < (nds.length : Int) := by have := (List.getElem?_eq_some_iff.1 hnk).1; omega
                    have e3 : (if j < k then max M fn else M) = M := if_neg (by omega)
                    have HKJ := Keep.mk hkj
                    have hwl : (wr.alloc (.cells #[.string g'.name, .slice b1 g'.params.length d1', .slice b2 g'.locals.length d2', .slice b3 g'.body.length d3'] 36)).cell? ⟨nb, no + k, none⟩ = some (.int .i64 (fn : Int)) := (((Below.refl wr.heap.size wr).alloc (Nat.le_refl _) _).cell (p := ⟨nb, no + k, none⟩) nl).trans n0
                    rw [e3]
                    have NL := Keep.mk nl
                    have N1 := Keep.mk n1
                    have HWL := Keep.mk hwl
                    clear hn hkj hnk hnb' hnc e3 n0 nl n1 hwl
                    go_upto_region 40 with (fail)
                    have nl := NL.out
                    have n1 := N1.out
                    have hwl := HWL.out
                    have nl2 : nb < (wr.alloc (.cells #[.string g'.name, .slice b1 g'.params.length d1', .slice b2 g'.locals.length d2', .slice b3 g'.body.length d3'] 36)).heap.size := by simp; omega
                    clear z0 z1 z2 z3 hbl x2 xl
                    generalize (wr.alloc (.cells #[.string g'.name, .slice b1 g'.params.length d1', .slice b2 g'.locals.length d2', .slice b3 g'.body.length d3'] 36)) = wq at *
                    clear nl
                    go_wp2_with fail
                    refine (most2_any (a := M) (b := fn) (Slc.made (t := 3) [.int .i64 (M : Int), .int .i64 (fn : Int)] (by decide) rfl) (by simp)).mono ?_
                    rintro _ w5 ⟨rfl, rfl⟩
                    go_wp2_with fail
                    go_roundw
                    case rel => exact ⟨k + 1, by omega, by go_num, by rw [if_pos (by have := HKJ.out; omega)], ⟨HBz.out.alloc HBz.out.size _⟩⟩
                    case measure => simp [intOf]; omega
                  · have q1 : (g'.name.toList == name.toList) = false := by rw [toList_beq, decide_eq_false hn]
                    have hkj : k ≠ j := fun e => by
                      subst e
                      have h1 := HJ.out.1
                      rw [HFK.out] at h1
                      cases h1
                      exact hn HJ.out.2.1
                    have e3 : (if j < k then max M fn else M) = (if j < k + 1 then max M fn else M) := by
                      by_cases h : j < k
                      · rw [if_pos h, if_pos (by omega)]
                      · rw [if_neg h, if_neg (by omega)]
                    rw [e3]
                    generalize hqq : (if j < k + 1 then max M fn else M) = q at *
                    have HQQ := Keep.mk hqq
                    clear hqq
                    clear hn hkj e3
                    go_wp2_with fail
                    go_roundw
                    case rel => exact ⟨k + 1, by omega, by go_num, by rw [HQQ.out], HBz⟩
                    case measure => simp [intOf]; omega
                · obtain rfl : k = fu.length := by omega
                  have e3 : (if j < fu.length then max M fn else M) = nn := by
                    rw [if_pos (by exact (List.getElem?_eq_some_iff.1 HJ.out.1).1), HNE.out]
                  rw [e3]
                  have HBE := Keep.mk (HBo.out.trans (HBl.out.mono HBo.out.size))
                  clear e3
                  go_wp2_with fail
                  go_ret
                  exact ⟨rfl, HBE.out⟩
      · have f10 : (op.toList == [99, 97, 108, 108]) = false := by rw [eqs op (k := sCall) (by decide +kernel), decide_eq_false g10]
        have G10 := Keep.mk g10
        clear g10
        have HNC := G10
        have HE : Keep (nn = max 2 (max (ns.getD 0 0) (1 + ns.getD 1 0))) := ⟨by rw [op_need HOP.out.2 HNC.out, if_neg G0.out, if_neg G1.out, if_neg G2.out, if_neg G3.out, if_neg G4.out]; unfold needBin; rw [if_neg (fun h => h.elim G5.out G6.out), if_neg G7.out, if_neg G8.out, if_neg G9.out]⟩
        have hl2 : ns.length = 2 := HNL.out.trans (shape_two HOP.out.1 G0.out G1.out G2.out G3.out G4.out HNC.out)
        obtain ⟨y, z, rfl⟩ : ∃ y z, ns = [y, z] := by
          match ns, hl2 with
          | [y, z], _ => exact ⟨y, z, rfl⟩
        obtain ⟨b, o, cap, hv, hb, hc⟩ := num_get HSN.out (i := 0) (x := y) rfl
        have hcz : wr.cell? ⟨b, o + 1, none⟩ = some (.int .i64 (z : Int)) := by
          obtain ⟨b', o', cap', hv', hb', hc'⟩ := num_get HSN.out (i := 1) (x := z) rfl
          rw [hv] at hv'
          simp only [Value.slice.injEq, true_and, Option.some.injEq, Addr.mk.injEq] at hv'
          obtain ⟨⟨rfl, rfl, _⟩, _⟩ := hv'
          exact hc'
        simp only [Value.slice.injEq, true_and] at hv
        obtain ⟨rfl, rfl⟩ := hv
        rw [Nat.add_zero] at hc
        have hyb : y ≤ 10000000000 := HNB.out y (by simp)
        have hzb : z ≤ 10000000000 := HNB.out z (by simp)
        have HSS : Keep (∀ w', Below wr.heap.size wr w' → (w'.cell? ⟨b, o, none⟩ = some (.int .i64 (y : Int)) ∧ w'.cell? ⟨b, o + 1, none⟩ = some (.int .i64 (z : Int))) ∧ Below wr.heap.size wr w') := ⟨fun w' h => ⟨⟨(h.cell (p := ⟨b, o, none⟩) hb).trans hc, (h.cell (p := ⟨b, o + 1, none⟩) hb).trans hcz⟩, h⟩⟩
        have r1 : IntKind.i64.wrap (1 + (y : Int)) = 1 + y := IntWalk.i64_in _ (by omega)
        have r2 : IntKind.i64.wrap (1 + (z : Int)) = 1 + z := IntWalk.i64_in _ (by omega)
        have r3 : IntKind.i64.wrap (2 + (y : Int)) = 2 + y := IntWalk.i64_in _ (by omega)
        have r4 : IntKind.i64.wrap (2 + (z : Int)) = 2 + z := IntWalk.i64_in _ (by omega)
        have r5 : IntKind.i64.wrap (3 + (z : Int)) = 3 + z := IntWalk.i64_in _ (by omega)
        clear hl2 hb hc hcz hyb hzb
        go_wp2_with fail
        go_region_held3 (fun w' => (w'.cell? ⟨b, o, none⟩ = some (.int .i64 (y : Int)) ∧ w'.cell? ⟨b, o + 1, none⟩ = some (.int .i64 (z : Int))) ∧ Below wr.heap.size wr w')
          (first | with_reducible exact HSS.out _ (Below.refl wr.heap.size wr).drew | with_reducible exact HSS.out _ (Below.refl wr.heap.size wr) | with_reducible assumption | (refine HSS.out _ ?_; (repeat' (first | with_reducible exact Below.refl _ _ | with_reducible refine Below.drew ?_ | with_reducible refine Below.alloc ?_ ?_ _ | (simp; done))); done))
          ((go_at_call 54; (refine (most3_any (a := 2) (b := y) (c := 1 + z) ((Slc.made (w := wr) (t := 3) [.int .i64 (2), .int .i64 ((y : Int)), .int .i64 (1 + (z : Int))] (by decide) rfl).below ((Below.refl _ _).drew) (Nat.le_refl _)) (by simp)).mono ?_); rintro _ w5 ⟨rfl, rfl⟩))
        all_goals (
          go_wp2_with fail
          go_ret
          refine ⟨by rw [HE.out]; rfl, ?_⟩
          exact HB.out.trans ((show Below wr.heap.size wr _ from (by repeat' (first | with_reducible exact Below.refl _ _ | with_reducible refine Below.drew ?_ | with_reducible refine Below.alloc ?_ ?_ _ | (simp; done)))).mono HB.out.size))
end Go.Proofs.Ytgimdbflpdmlmaa
