/- The reference's needs: the need that the program's check of statements reckons. Condition: bounds. -/
import Derived.Test.YtgimdbflpdmlmaaRuNeed
import Derived.Test.YtgimdbflpdmlmaaRuCheckMath
namespace Go.Proofs.Ytgimdbflpdmlmaa
set_option maxRecDepth 100000
open Go.RowKit Go.Shelf Go.Proofs.Ytgimdbflpdmlmaa.Ck

theorem needs_step {k : Int} {v i t u : Nat} : (k = 1 ∨ k = 6 → needOf k v i t u = max 2 v) ∧ (k = 2 → needOf k v i t u = max v (2 + i)) ∧ (k = 3 ∨ k = 4 → needOf k v i t u = max 2 (max v (max t u))) ∧ (k = 5 → needOf k v i t u = v) ∧ (k ≠ 1 → k ≠ 2 → k ≠ 3 → k ≠ 4 → k ≠ 5 → k ≠ 6 → needOf k v i t u = 0) := by
  unfold needOf
  refine ⟨fun h => if_pos h, fun h => ?_, fun h => ?_, fun h => ?_, fun h1 h2 h3 h4 h5 h6 => ?_⟩
  · rw [if_neg (by omega), if_pos h]
  · rw [if_neg (by omega), if_neg (by omega), if_pos h]
  · rw [if_neg (by omega), if_neg (by omega), if_neg (by omega), if_pos h]
  · rw [if_neg (by omega), if_neg (by omega), if_neg (by omega), if_neg h5]
theorem held_allocS {w w' : World} (h : Below w.heap.size w w') (o : Obj) : Below w.heap.size w (w'.alloc o) := h.alloc h.size o
set_option maxHeartbeats 32000000 in
theorem needs_any {c : Cx} {fu : List Fu} {nds : List Nat} {fv nv : Value} {K0 : Nat} (hs : Small c K0) (hK : K0 ≤ 1000000000) (hnd : ∀ x ∈ nds, x ≤ 1000000000) (hrel : NdRel c fu nds) (n : Nat) : ∀ (l : List St) (u : Value) (w : World) (d M D : Nat), StsAt w n u l → FnsAt w fv fu → Slc w 1 nv nds.length (numCells nds) → nodesS l ≤ 1000000000 → stsC c l d = .ok (M, D) →
    Calls Try.prog 55 #[u, fv, nv] w fun e' w' => e' = .returned (.int .i64 (M : Int)) ∧ Below w.heap.size w w' := by
  induction n using Nat.strongRecOn with
  | ind n ih =>
  intro l u w d M D hE hF hN hnodes hok
  obtain ⟨ua, ucap, rfl, hu1, hu2⟩ := hE.len
  obtain ⟨fa, fc, rfl, hf1, hf2⟩ := hF.len
  obtain ⟨na, nc, rfl, hn1, hn2, _⟩ := id hN
  have hal : l.length ≤ 1000000000 := by have := length_nodesS l; omega
  have HOK := Keep.mk hok
  have HE' := Keep.mk hE
  have HF := Keep.mk hF
  have HN := Keep.mk hN
  have IH := Keep.mk ih
  have HND := Keep.mk hnodes
  have HKE := Keep.mk (And.intro hs (And.intro hK (And.intro hnd hrel)))
  unfold maxLen at hu2 hf2 hn2
  clear hE hF hN ih hok hnodes hs hK hnd hrel
  go_enter Try.func55, Try.ntmps55
  have HB0 := Keep.mk (Below.refl w.heap.size w)
  go_wp2_with fail
  go_loopw [18, 7] (fun i s wr => ∃ (k m d1 : Nat), k ≤ l.length ∧ i = .int .i64 k ∧ s = .int .i64 (m : Int) ∧ Keep (stsC c (l.take k) d = .ok (m, d1)) ∧ Keep (Below w.heap.size w wr)) (fun i _ _ => l.length - (intOf i).toNat)
  case atStart => exact ⟨0, 0, d, Nat.zero_le _, rfl, rfl, ⟨by rw [List.take_zero, stsC_nil]⟩, HB0⟩
  case round =>
    clear HB0
    obtain ⟨k, m0, d1, hk, rfl, rfl, HX, HB⟩ := hrel
    by_cases hlt : k < l.length
    · have k0 : (0 : Int) ≤ k := by omega
      have k1 : (k : Int) < l.length := by omega
      obtain ⟨s, hsk⟩ : ∃ s, l[k]? = some s := ⟨_, List.getElem?_eq_getElem hlt⟩
      obtain ⟨m, b, o, cap, ui, uv, ut, ue, hnm, hua, hb, x0, x1, x2, x3, x4, x5, hI, hV, hT, hEl⟩ := HE'.out.get hsk
      simp only [Value.slice.injEq, true_and] at hua
      obtain ⟨rfl, rfl⟩ := hua
      obtain ⟨n1, d2, hst, hst2⟩ := stsC_get HOK.out hsk HX.out
      have HX2 := Keep.mk hst2
      have hle := stC_le HKE.out.1 s d1 n1 d2 hst
      have hnn := nodesS_get hsk
      have hb0 := (stsC_le HKE.out.1 _ _ _ _ HX.out).1
      have htk := nodesS_take l k
      obtain ⟨kd, name, index, value, thn, els⟩ := s
      change ∃ m, ExsAt w m ui index at hI
      change ∃ m, ExsAt w m uv value at hV
      change StsAt w m ut thn at hT
      change StsAt w m ue els at hEl
      obtain ⟨mi, hI⟩ := hI
      obtain ⟨mv, hV⟩ := hV
      change w.cell? ⟨b, o + k * 6, none⟩ = some (.int .i64 kd) at x0
      change w.cell? ⟨b, o + k * 6 + 1, none⟩ = some (.string name) at x1
      have z0 := (HB.out.cell (p := ⟨b, o + k * 6, none⟩) hb).trans x0
      have z1 := (HB.out.cell (p := ⟨b, o + k * 6 + 1, none⟩) hb).trans x1
      have z2 := (HB.out.cell (p := ⟨b, o + k * 6 + 2, none⟩) hb).trans x2
      have z3 := (HB.out.cell (p := ⟨b, o + k * 6 + 3, none⟩) hb).trans x3
      have z4 := (HB.out.cell (p := ⟨b, o + k * 6 + 4, none⟩) hb).trans x4
      have z5 := (HB.out.cell (p := ⟨b, o + k * 6 + 5, none⟩) hb).trans x5
      have hbl : b < wr.heap.size := Nat.lt_of_lt_of_le hb HB.out.size
      obtain ⟨ia, ic, rfl, _, hic⟩ := hI.len
      obtain ⟨va, vc, rfl, _, hvc⟩ := hV.len
      obtain ⟨ta, tc, rfl, _, _⟩ := hT.len
      obtain ⟨ea, ec, rfl, _, _⟩ := hEl.len
      unfold maxLen at hic hvc
      obtain ⟨vs, e1, ws, e2, t, e3, u, p1, p2, p3, p4, p5⟩ := st_parts hst
      have hsn : (St.mk kd name index value thn els).nodes = 1 + nodesL index + nodesL value + nodesS thn + nodesS els := by rw [St.nodes]
      have hvl := exprsC_length p1
      have hwl := exprsC_length p2
      have HPB : Keep (m0 ≤ 6000000000 ∧ (∀ x ∈ vs, x ≤ 6000000000) ∧ (∀ x ∈ ws, x ≤ 6000000000) ∧ nodesL index ≤ 1000000000 ∧ nodesL value ≤ 1000000000 ∧ nodesS thn ≤ 1000000000 ∧ nodesS els ≤ 1000000000 ∧ t ≤ 6000000000 ∧ u ≤ 6000000000) := ⟨by
        have hK := HKE.out.2.1
        have hN := HND.out
        have q1 := (exprsC_le HKE.out.1 _ _ _ _ p1).2.1
        have q2 := (exprsC_le HKE.out.1 _ _ _ _ p2).2.1
        have q3 := (stsC_le HKE.out.1 _ _ _ _ p3).1
        have q4 := (stsC_le HKE.out.1 _ _ _ _ p4).1
        refine ⟨by omega, fun x hx => by have := q1 x hx; omega, fun x hx => by have := q2 x hx; omega, by omega, by omega, by omega, by omega, by omega, by omega⟩⟩
      have HPV := Keep.mk p1
      have HPW := Keep.mk p2
      have HPT := Keep.mk p3
      have HPE := Keep.mk p4
      have HNE := Keep.mk p5
      have HVL := Keep.mk hvl
      have HWL := Keep.mk hwl
      have HVE := Keep.mk hV
      have HIE := Keep.mk hI
      have HT := Keep.mk hT
      have HEl := Keep.mk hEl
      have hmn : m < n := by omega
      have HMN := Keep.mk hmn
      have hvi : value.length ≤ 1000000000 ∧ index.length ≤ 1000000000 := by
        have h1 := length_nodesL value
        have h2 := length_nodesL index
        have := HPB.out
        omega
      obtain ⟨hvb, hib⟩ := hvi
      have HLT := Keep.mk (And.intro hlt hk)
      clear x0 x1 x2 x3 x4 x5 hI hV hT hEl hnm hst hst2 hle hnn hb0 htk hsk p1 p2 p3 p4 p5 hsn hvl hwl hmn
      go_upto_region 5 with (fail)
      obtain ⟨Z, hZ'⟩ : ∃ Z, Z = wr.heap.size := ⟨_, rfl⟩
      have hbz : Below wr.heap.size wr (wr.alloc (.cells #[.int .i64 kd, .string name, .slice ia index.length ic, .slice va value.length vc, .slice ta thn.length tc, .slice ea els.length ec] 46)) := (Below.refl _ _).alloc (Nat.le_refl _) _
      have hZ : (wr.alloc (.cells #[.int .i64 kd, .string name, .slice ia index.length ic, .slice va value.length vc, .slice ta thn.length tc, .slice ea els.length ec] 46)).heap[wr.heap.size]? = some (.cells #[.int .i64 kd, .string name, .slice ia index.length ic, .slice va value.length vc, .slice ta thn.length tc, .slice ea els.length ec] 46 (0, 0)) := heap_alloc_new wr _
      have HBz := Keep.mk (HB.out.trans (hbz.mono HB.out.size))
      rw [← hZ'] at hZ ⊢
      clear hbz z0 z1 z2 z3 z4 z5 hbl hZ' HB hlt hk k0 k1
      generalize (wr.alloc (.cells #[.int .i64 kd, .string name, .slice ia index.length ic, .slice va value.length vc, .slice ta thn.length tc, .slice ea els.length ec] 46)) = wz at *
      clear wr
      have HSL : Keep (∀ w', Below wz.heap.size wz w' → ((w'.cell? ⟨Z, 0, none⟩ = some (.int .i64 kd) ∧ w'.cell? ⟨Z, 1, none⟩ = some (.string name)) ∧ (w'.cell? ⟨Z, 2, none⟩ = some (.slice ia index.length ic) ∧ w'.cell? ⟨Z, 3, none⟩ = some (.slice va value.length vc)) ∧ (w'.cell? ⟨Z, 4, none⟩ = some (.slice ta thn.length tc) ∧ w'.cell? ⟨Z, 5, none⟩ = some (.slice ea els.length ec)) ∧ Z < w'.heap.size)) := ⟨fun w' h => by
        have e := (h.block Z (Array.getElem?_eq_some_iff.1 hZ).1).trans hZ
        exact ⟨⟨by simp [World.cell?, e], by simp [World.cell?, e]⟩, ⟨by simp [World.cell?, e], by simp [World.cell?, e]⟩, ⟨by simp [World.cell?, e], by simp [World.cell?, e]⟩, (Array.getElem?_eq_some_iff.1 e).1⟩⟩
      clear hZ
      have HW0 := Keep.mk (Below.refl wz.heap.size wz)
      obtain ⟨⟨t0, t1⟩, ⟨t2, t3⟩, ⟨t4, t5⟩, tl⟩ := HSL.out _ (Below.refl _ _)
      go_wp2_with fail
      clear t0 t1 t2 t3 t4 t5 tl
      go_loopw [25, 10] (fun i s wr => ∃ j : Nat, j ≤ value.length ∧ i = .int .i64 j ∧ s = .int .i64 ((lastN (vs.take j) : Nat) : Int) ∧ Keep (Below wz.heap.size wz wr)) (fun i _ _ => value.length - (intOf i).toNat)
      case atStart => exact ⟨0, Nat.zero_le _, rfl, rfl, HW0⟩
      case round =>
        clear HW0
        obtain ⟨j, hj, rfl, rfl, HB⟩ := hrel
        by_cases hlj : j < value.length
        · have j0 : (0 : Int) ≤ j := by omega
          have j1 : (j : Int) < value.length := by omega
          obtain ⟨e, hej⟩ : ∃ e, value[j]? = some e := ⟨_, List.getElem?_eq_getElem hlj⟩
          obtain ⟨me, b', o', cap', u', hme, hua, hb', x0, x1, x2, x3, hu⟩ := HVE.out.get hej
          simp only [Value.slice.injEq, true_and] at hua
          obtain ⟨rfl, rfl⟩ := hua
          have HBw := Keep.mk (HBz.out.trans (HB.out.mono HBz.out.size))
          have z0 := (HBw.out.cell (p := ⟨b', o' + j * 4, none⟩) hb').trans x0
          have z1 := (HBw.out.cell (p := ⟨b', o' + j * 4 + 1, none⟩) hb').trans x1
          have z2 := (HBw.out.cell (p := ⟨b', o' + j * 4 + 2, none⟩) hb').trans x2
          have z3 := (HBw.out.cell (p := ⟨b', o' + j * 4 + 3, none⟩) hb').trans x3
          have hbl : b' < wr.heap.size := Nat.lt_of_lt_of_le hb' HBw.out.size
          obtain ⟨uu, ucap', rfl, _, _⟩ := hu.len
          obtain ⟨n2, f1, f2, hn2', hr⟩ := exprsC_get HPV.out hej
          have HL := Keep.mk (lastN_step hn2')
          have HI : Keep (∀ wx, Below w.heap.size w wx → Calls Try.prog 68 #[.agg #[.string e.op, .int .u32 e.num, .string e.name, .slice uu e.args.length ucap'], .slice fa fu.length fc, .slice na nds.length nc] wx fun e' w' => e' = .returned (.int .i64 (n2 : Int)) ∧ Below wx.heap.size wx w') := ⟨fun wx hx =>
            need_any HKE.out.1 HKE.out.2.1 HKE.out.2.2.1 HKE.out.2.2.2 me e _ wx f1 n2 f2 (hu.below hx (Nat.le_refl _)) (HF.out.below hx (Nat.le_refl _)) (HN.out.below hx (Nat.le_refl _)) (by have := nodesL_get hej; have := HPB.out; omega) hr⟩
          have HBs : Keep (Below wz.heap.size wz (wr.alloc (.cells #[.string e.op, .int .u32 e.num, .string e.name, .slice uu e.args.length ucap'] 42))) := ⟨HB.out.alloc HB.out.size _⟩
          clear x0 x1 x2 x3 hej hu hb' hn2' hr
          go_wp2_with fail
          refine (HI.out _ (HBz.out.trans (HBs.out.mono HBz.out.size))).mono ?_
          rintro _ w5 ⟨rfl, hb5⟩
          have HB5 := Keep.mk (HBs.out.trans (hb5.mono HBs.out.size))
          clear z0 z1 z2 z3 hbl hb5 HI
          go_wp2_with fail
          go_roundw
          case rel => exact ⟨j + 1, by omega, by go_num, by rw [HL.out], HB5⟩
          case measure => simp [intOf]; omega
        · obtain rfl : j = value.length := by omega
          have hva : lastN (vs.take value.length) = lastN vs := by rw [← HVL.out, List.take_length]
          rw [hva]
          have hvb2 : lastN vs ≤ 6000000000 := lastN_le HPB.out.2.1
          have HVV : Keep (lastN vs = lastN vs) := ⟨rfl⟩
          clear hva hlj hj
          generalize hvn : lastN vs = vn at *
          have HVN := Keep.mk hvn
          clear hvn HVV
          have HB1 := Keep.mk HB.out
          obtain ⟨⟨t0, t1⟩, ⟨t2, t3⟩, ⟨t4, t5⟩, tl⟩ := HSL.out _ HB1.out
          clear HB
          generalize wr = wo at *
          go_wp2_with fail
          clear t0 t1 t2 t3 t4 t5 tl
          go_loopw [37, 11] (fun i s wr => ∃ j : Nat, j ≤ index.length ∧ i = .int .i64 j ∧ s = .int .i64 ((lastN (ws.take j) : Nat) : Int) ∧ Keep (Below wz.heap.size wz wr)) (fun i _ _ => index.length - (intOf i).toNat)
          case atStart => exact ⟨0, Nat.zero_le _, rfl, rfl, HB1⟩
          case round =>
            clear HB1
            obtain ⟨j, hj, rfl, rfl, HB⟩ := hrel
            by_cases hlj : j < index.length
            · have j0 : (0 : Int) ≤ j := by omega
              have j1 : (j : Int) < index.length := by omega
              obtain ⟨e, hej⟩ : ∃ e, index[j]? = some e := ⟨_, List.getElem?_eq_getElem hlj⟩
              obtain ⟨me, b', o', cap', u', hme, hua, hb', x0, x1, x2, x3, hu⟩ := HIE.out.get hej
              simp only [Value.slice.injEq, true_and] at hua
              obtain ⟨rfl, rfl⟩ := hua
              have HBw := Keep.mk (HBz.out.trans (HB.out.mono HBz.out.size))
              have z0 := (HBw.out.cell (p := ⟨b', o' + j * 4, none⟩) hb').trans x0
              have z1 := (HBw.out.cell (p := ⟨b', o' + j * 4 + 1, none⟩) hb').trans x1
              have z2 := (HBw.out.cell (p := ⟨b', o' + j * 4 + 2, none⟩) hb').trans x2
              have z3 := (HBw.out.cell (p := ⟨b', o' + j * 4 + 3, none⟩) hb').trans x3
              have hbl : b' < wr.heap.size := Nat.lt_of_lt_of_le hb' HBw.out.size
              obtain ⟨uu, ucap', rfl, _, _⟩ := hu.len
              obtain ⟨n2, f1, f2, hn2', hr⟩ := exprsC_get HPW.out hej
              have HL := Keep.mk (lastN_step hn2')
              have HI : Keep (∀ wx, Below w.heap.size w wx → Calls Try.prog 68 #[.agg #[.string e.op, .int .u32 e.num, .string e.name, .slice uu e.args.length ucap'], .slice fa fu.length fc, .slice na nds.length nc] wx fun e' w' => e' = .returned (.int .i64 (n2 : Int)) ∧ Below wx.heap.size wx w') := ⟨fun wx hx =>
                need_any HKE.out.1 HKE.out.2.1 HKE.out.2.2.1 HKE.out.2.2.2 me e _ wx f1 n2 f2 (hu.below hx (Nat.le_refl _)) (HF.out.below hx (Nat.le_refl _)) (HN.out.below hx (Nat.le_refl _)) (by have := nodesL_get hej; have := HPB.out; omega) hr⟩
              have HBs : Keep (Below wz.heap.size wz (wr.alloc (.cells #[.string e.op, .int .u32 e.num, .string e.name, .slice uu e.args.length ucap'] 42))) := ⟨HB.out.alloc HB.out.size _⟩
              clear x0 x1 x2 x3 hej hu hb' hn2' hr
              go_wp2_with fail
              refine (HI.out _ (HBz.out.trans (HBs.out.mono HBz.out.size))).mono ?_
              rintro _ w5 ⟨rfl, hb5⟩
              have HB5 := Keep.mk (HBs.out.trans (hb5.mono HBs.out.size))
              clear z0 z1 z2 z3 hbl hb5 HI
              go_wp2_with fail
              go_roundw
              case rel => exact ⟨j + 1, by omega, by go_num, by rw [HL.out], HB5⟩
              case measure => simp [intOf]; omega
            · obtain rfl : j = index.length := by omega
              have hwa : lastN (ws.take index.length) = lastN ws := by rw [← HWL.out, List.take_length]
              rw [hwa]
              have hwb2 : lastN ws ≤ 6000000000 := lastN_le HPB.out.2.2.1
              clear hwa hlj hj
              generalize hwn : lastN ws = wn at *
              have HWN := Keep.mk hwn
              clear hwn
              obtain ⟨⟨t0, t1⟩, ⟨t2, t3⟩, ⟨t4, t5⟩, tl⟩ := HSL.out _ HB.out
              clear wo
              generalize wr = wo at *
              have hlk : k + 1 ≤ l.length := HLT.out.1
              have hm0 : m0 ≤ 6000000000 := HPB.out.1
              obtain ⟨y1, y2, y3, y4, y5⟩ := needs_step (k := kd) (v := vn) (i := wn) (t := t) (u := u)
              have HSAY := Keep.mk (And.intro y1 (And.intro y2 (And.intro y3 (And.intro y4 y5))))
              clear y1 y2 y3 y4 y5
              have HBX := Keep.mk (HBz.out.trans (HB.out.mono HBz.out.size))
              have REL : Keep (∀ (M' : Nat) (w5 : World), M' = max m0 (needOf kd vn wn t u) → Below wo.heap.size wo w5 → Keep (stsC c (l.take (k + 1)) d = .ok (M', d2)) ∧ Keep (Below w.heap.size w w5)) := ⟨fun M' w5 hM hw => ⟨⟨by
                rw [hM]
                have := HX2.out
                rw [HNE.out] at this
                exact this⟩, ⟨HBX.out.trans (hw.mono HBX.out.size)⟩⟩⟩
              have r2 : IntKind.i64.wrap (2 + (wn : Int)) = 2 + wn := IntWalk.i64_in _ (by omega)
              have HW := Keep.mk HB.out
              have HCT : Keep (∀ wx, Below wo.heap.size wo wx → Calls Try.prog 55 #[.slice ta thn.length tc, .slice fa fu.length fc, .slice na nds.length nc] wx fun e' w' => e' = .returned (.int .i64 (t : Int)) ∧ Below wx.heap.size wx w') := ⟨fun wx hx => IH.out m HMN.out thn _ wx e2 t e3 (HT.out.below (HBX.out.trans (hx.mono HBX.out.size)) (Nat.le_refl _)) (HF.out.below (HBX.out.trans (hx.mono HBX.out.size)) (Nat.le_refl _)) (HN.out.below (HBX.out.trans (hx.mono HBX.out.size)) (Nat.le_refl _)) HPB.out.2.2.2.2.2.1 HPT.out⟩
              have HCE : Keep (∀ wx, Below wo.heap.size wo wx → Calls Try.prog 55 #[.slice ea els.length ec, .slice fa fu.length fc, .slice na nds.length nc] wx fun e' w' => e' = .returned (.int .i64 (u : Int)) ∧ Below wx.heap.size wx w') := ⟨fun wx hx => IH.out m HMN.out els _ wx e3 u d2 (HEl.out.below (HBX.out.trans (hx.mono HBX.out.size)) (Nat.le_refl _)) (HF.out.below (HBX.out.trans (hx.mono HBX.out.size)) (Nat.le_refl _)) (HN.out.below (HBX.out.trans (hx.mono HBX.out.size)) (Nat.le_refl _)) HPB.out.2.2.2.2.2.2.1 HPE.out⟩
              have HSK : Keep (∀ w', Below wo.heap.size wo w' → (w'.cell? ⟨Z, 4, none⟩ = some (.slice ta thn.length tc) ∧ w'.cell? ⟨Z, 5, none⟩ = some (.slice ea els.length ec)) ∧ Below wo.heap.size wo w') := ⟨fun w' h => ⟨(HSL.out w' (HW.out.trans (h.mono HW.out.size))).2.2.1, h⟩⟩
              by_cases g : kd = 1
              · have q1 : (kd == 1) = true := by simp [g]
                have HM : Keep (max m0 (needOf kd vn wn t u) = max m0 (max 2 vn)) := ⟨by rw [HSAY.out.1 (.inl g)]⟩
                clear g
                go_wp2_with fail
                refine (most3_any (a := m0) (b := 2) (c := vn) (Slc.made (t := 3) [.int .i64 (m0 : Int), .int .i64 2, .int .i64 (vn : Int)] (by decide) rfl) (by simp)).mono ?_
                rintro _ w5 ⟨rfl, rfl⟩
                go_wp2_with fail
                go_roundw
                case rel => exact ⟨k + 1, _, d2, hlk, by go_num, rfl, (REL.out _ wo HM.out.symm (Below.refl _ _)).1, ⟨HBX.out.trans (((Below.refl wo.heap.size wo).alloc (Nat.le_refl _) _).mono HBX.out.size)⟩⟩
                case measure => have := HLT.out.1; simp [intOf]; omega
              have q1 : (kd == 1) = false := by simp [g]
              have G1 := Keep.mk g
              clear g
              by_cases g : kd = 6
              · have q6 : (kd == 6) = true := by simp [g]
                have HM : Keep (max m0 (needOf kd vn wn t u) = max m0 (max 2 vn)) := ⟨by rw [HSAY.out.1 (.inr g)]⟩
                clear g
                go_wp2_with fail
                refine (most3_any (a := m0) (b := 2) (c := vn) (Slc.made (t := 3) [.int .i64 (m0 : Int), .int .i64 2, .int .i64 (vn : Int)] (by decide) rfl) (by simp)).mono ?_
                rintro _ w5 ⟨rfl, rfl⟩
                go_wp2_with fail
                go_roundw
                case rel => exact ⟨k + 1, _, d2, hlk, by go_num, rfl, (REL.out _ wo HM.out.symm (Below.refl _ _)).1, ⟨HBX.out.trans (((Below.refl wo.heap.size wo).alloc (Nat.le_refl _) _).mono HBX.out.size)⟩⟩
                case measure => have := HLT.out.1; simp [intOf]; omega
              have q6 : (kd == 6) = false := by simp [g]
              have G6 := Keep.mk g
              clear g
              by_cases g : kd = 2
              · have q2 : (kd == 2) = true := by simp [g]
                have HM : Keep (max m0 (needOf kd vn wn t u) = max m0 (max vn (2 + wn))) := ⟨by rw [HSAY.out.2.1 g]⟩
                clear g
                go_wp2_with fail
                refine (most3_any (a := m0) (b := vn) (c := 2 + wn) (Slc.made (t := 3) [.int .i64 (m0 : Int), .int .i64 (vn : Int), .int .i64 (2 + (wn : Int))] (by decide) rfl) (by simp)).mono ?_
                rintro _ w5 ⟨rfl, rfl⟩
                go_wp2_with fail
                go_roundw
                case rel => exact ⟨k + 1, _, d2, hlk, by go_num, rfl, (REL.out _ wo HM.out.symm (Below.refl _ _)).1, ⟨HBX.out.trans (((Below.refl wo.heap.size wo).alloc (Nat.le_refl _) _).mono HBX.out.size)⟩⟩
                case measure => have := HLT.out.1; simp [intOf]; omega
              have q2 : (kd == 2) = false := by simp [g]
              have G2 := Keep.mk g
              clear g
              by_cases g : kd = 3
              · have q3 : (kd == 3) = true := by simp [g]
                have HM : Keep (max m0 (needOf kd vn wn t u) = max m0 (max 2 (max vn (max t u)))) := ⟨by rw [HSAY.out.2.2.1 (.inl g)]⟩
                clear g
                go_upto_region 24 with (fail)
                go_region_held3 (fun w' => (w'.cell? ⟨Z, 4, none⟩ = some (.slice ta thn.length tc) ∧ w'.cell? ⟨Z, 5, none⟩ = some (.slice ea els.length ec)) ∧ Below wo.heap.size wo w')
                  (first | with_reducible exact HSK.out _ (Below.refl wo.heap.size wo).drew | with_reducible exact HSK.out _ (Below.refl wo.heap.size wo) | with_reducible exact HSK.out _ (held_onS hb72 (And.right (by assumption))) | with_reducible exact HSK.out _ (held_onS hb77 (And.right (by assumption))) | with_reducible exact HSK.out _ (held_allocS (And.right (by assumption)) _) | with_reducible assumption)
                  (first
                    | (go_at_call 55; (with_reducible refine (HCT.out _ ?_).mono ?_); (exact And.right (by assumption)); rintro _ w72 ⟨rfl, hb72⟩)
                    | (go_at_call 55; (with_reducible refine (HCE.out _ ?_).mono ?_); (exact And.right (by assumption)); rintro _ w77 ⟨rfl, hb77⟩)
                    | (go_at_call 54; (refine (most5_any (a := m0) (b := 2) (c := vn) (d := t) (e := u) (Slc.made (t := 3) [.int .i64 (m0 : Int), .int .i64 2, .int .i64 (vn : Int), .int .i64 (t : Int), .int .i64 (u : Int)] (by decide) rfl) (by simp)).mono ?_); rintro _ w5 ⟨rfl, rfl⟩))
                have h7 : Below wo.heap.size wo w77 := ((Below.refl wo.heap.size wo).drew.trans (hb72.mono (Nat.le_refl _))).trans (hb77.mono hb72.size)
                clear hb72 hb77
                go_wp2_with fail
                go_roundw
                case rel => exact ⟨k + 1, _, d2, hlk, by go_num, rfl, (REL.out _ wo HM.out.symm (Below.refl _ _)).1, ⟨HBX.out.trans ((held_allocS h7 _).mono HBX.out.size)⟩⟩
                case measure => have := HLT.out.1; simp [intOf]; omega
              have q3 : (kd == 3) = false := by simp [g]
              have G3 := Keep.mk g
              clear g
              by_cases g : kd = 4
              · have q4 : (kd == 4) = true := by simp [g]
                have HM : Keep (max m0 (needOf kd vn wn t u) = max m0 (max 2 (max vn (max t u)))) := ⟨by rw [HSAY.out.2.2.1 (.inr g)]⟩
                clear g
                go_upto_region 24 with (fail)
                go_region_held3 (fun w' => (w'.cell? ⟨Z, 4, none⟩ = some (.slice ta thn.length tc) ∧ w'.cell? ⟨Z, 5, none⟩ = some (.slice ea els.length ec)) ∧ Below wo.heap.size wo w')
                  (first | with_reducible exact HSK.out _ (Below.refl wo.heap.size wo).drew | with_reducible exact HSK.out _ (Below.refl wo.heap.size wo) | with_reducible exact HSK.out _ (held_onS hb72 (And.right (by assumption))) | with_reducible exact HSK.out _ (held_onS hb77 (And.right (by assumption))) | with_reducible exact HSK.out _ (held_allocS (And.right (by assumption)) _) | with_reducible assumption)
                  (first
                    | (go_at_call 55; (with_reducible refine (HCT.out _ ?_).mono ?_); (exact And.right (by assumption)); rintro _ w72 ⟨rfl, hb72⟩)
                    | (go_at_call 55; (with_reducible refine (HCE.out _ ?_).mono ?_); (exact And.right (by assumption)); rintro _ w77 ⟨rfl, hb77⟩)
                    | (go_at_call 54; (refine (most5_any (a := m0) (b := 2) (c := vn) (d := t) (e := u) (Slc.made (t := 3) [.int .i64 (m0 : Int), .int .i64 2, .int .i64 (vn : Int), .int .i64 (t : Int), .int .i64 (u : Int)] (by decide) rfl) (by simp)).mono ?_); rintro _ w5 ⟨rfl, rfl⟩))
                have h7 : Below wo.heap.size wo w77 := ((Below.refl wo.heap.size wo).drew.trans (hb72.mono (Nat.le_refl _))).trans (hb77.mono hb72.size)
                clear hb72 hb77
                go_wp2_with fail
                go_roundw
                case rel => exact ⟨k + 1, _, d2, hlk, by go_num, rfl, (REL.out _ wo HM.out.symm (Below.refl _ _)).1, ⟨HBX.out.trans ((held_allocS h7 _).mono HBX.out.size)⟩⟩
                case measure => have := HLT.out.1; simp [intOf]; omega
              have q4 : (kd == 4) = false := by simp [g]
              have G4 := Keep.mk g
              clear g
              by_cases g : kd = 5
              · have q5 : (kd == 5) = true := by simp [g]
                have HM : Keep (max m0 (needOf kd vn wn t u) = max m0 (vn)) := ⟨by rw [HSAY.out.2.2.2.1 g]⟩
                clear g
                go_wp2_with fail
                refine (most2_any (a := m0) (b := vn) (Slc.made (t := 3) [.int .i64 (m0 : Int), .int .i64 (vn : Int)] (by decide) rfl) (by simp)).mono ?_
                rintro _ w5 ⟨rfl, rfl⟩
                go_wp2_with fail
                go_roundw
                case rel => exact ⟨k + 1, _, d2, hlk, by go_num, rfl, (REL.out _ wo HM.out.symm (Below.refl _ _)).1, ⟨HBX.out.trans (((Below.refl wo.heap.size wo).alloc (Nat.le_refl _) _).mono HBX.out.size)⟩⟩
                case measure => have := HLT.out.1; simp [intOf]; omega
              have q5 : (kd == 5) = false := by simp [g]
              have G5 := Keep.mk g
              clear g
              have HM : Keep (max m0 (needOf kd vn wn t u) = m0) := ⟨by rw [HSAY.out.2.2.2.2 G1.out G2.out G3.out G4.out G5.out G6.out]; exact Nat.max_eq_left (Nat.zero_le _)⟩
              go_wp2_with fail
              go_roundw
              case rel => exact ⟨k + 1, _, d2, hlk, by go_num, rfl, (REL.out _ _ HM.out.symm (Below.refl _ _)).1, (REL.out _ _ HM.out.symm (Below.refl _ _)).2⟩
              case measure => have := HLT.out.1; simp [intOf]; omega
    · obtain rfl : k = l.length := by omega
      rw [List.take_length] at HX
      have HEQ : Keep (m0 = M) := ⟨by have := HX.out; rw [HOK.out] at this; cases this; rfl⟩
      go_wp2_with fail
      go_ret
      exact ⟨by rw [HEQ.out]; rfl, HB.out⟩
end Go.Proofs.Ytgimdbflpdmlmaa
