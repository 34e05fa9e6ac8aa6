/- Put of the reference. Condition: a valid session, bounds. -/
import Derived.Test.YtomlknjpaielgaaRefRows
import Derived.Test.YtomlknjpaielgaaSparseRef
import Derived.Test.YtomlknjpaielgaaChunkRef
import Derived.Test.YtomlknjpaielgaaB2RefSum
import Derived.BigRegion
namespace Go.Proofs.Ytomlknjpaielgaa
set_option maxRecDepth 100000
open Go.RowKit Go.Shelf Go.Proofs.Ytomlknjpaielgaa.Store Go.Proofs.Ytomlknjpaielgaa.Sparse

theorem refInv_zero {w : World} {a : Option Addr} {n c : Nat} {cs : List Chk} {ses : Int} {st : ByteArray} (h : Chks w (.slice a n c) cs) :
    RefInv w (((w.alloc (.cells #[.slice a n c, .int .i64 ses, .string st] 27)).alloc (.cells #[.slice none 0 0, .int .i64 0, .string ⟨#[]⟩] 27)).alloc (.cells #[] 42)) ses cs st []
      (((w.alloc (.cells #[.slice a n c, .int .i64 ses, .string st] 27)).alloc (.cells #[.slice none 0 0, .int .i64 0, .string ⟨#[]⟩] 27)).alloc (.cells #[] 42)) (.slice a n c) (.slice (some ⟨w.heap.size + 1 + 1, 0, none⟩) 0 0) := by
  have e1 : (w.alloc (.cells #[.slice a n c, .int .i64 ses, .string st] 27)).heap.size = w.heap.size + 1 := World.size_alloc ..
  have e2 : ((w.alloc (.cells #[.slice a n c, .int .i64 ses, .string st] 27)).alloc (.cells #[.slice none 0 0, .int .i64 0, .string ⟨#[]⟩] 27)).heap.size = w.heap.size + 1 + 1 := by rw [World.size_alloc, e1]
  have a1 := Arr.new w 27 (storeCells (.slice a n c) ses st)
  have a2 := Arr.new (w.alloc (.cells #[.slice a n c, .int .i64 ses, .string st] 27)) 27 (storeCells (.slice none 0 0) 0 ⟨#[]⟩)
  rw [e1] at a2
  have r3 := World.ownsRow_made (base := w.heap.size) (e := 42) (size := 3) ((w.alloc (.cells #[.slice a n c, .int .i64 ses, .string st] 27)).alloc (.cells #[.slice none 0 0, .int .i64 0, .string ⟨#[]⟩] 27)) #[] 0 (by omega) (by decide) rfl
  rw [e2] at r3
  exact ⟨(a1.alloc _).alloc _, a2.alloc _, .inl h, r3, (((Below.refl _ _).alloc (Nat.le_refl _) _).alloc (by omega) _).alloc (by omega) _, KeepT.refl _⟩

set_option maxHeartbeats 8000000 in
theorem refPut_any {w : World} {v : Value} {cs : List Chk} {ses : Int} {st content : ByteArray} (h : Chks w v cs) (hs1 : 1 ≤ ses) (hs2 : ses ≤ 255) (hct : content.size ≤ 60000) (hfit : Fit content.size (cs, st, [])) :
    Calls Try.prog 14 #[.agg #[v, .int .i64 ses, .string st], .string content] w fun e w' => ∃ cv ev, e = .returned (.tuple #[.agg #[cv, .int .i64 ses, .string (putAll ses cs st content).2.1], ev, .int .i64 0]) ∧
      Chks w' cv (putAll ses cs st content).1 ∧ OwnExts w.heap.size w' ev (putAll ses cs st content).2.2 ∧ Below w.heap.size w w' := by
  obtain ⟨av, capv, rfl, _⟩ := h.parts
  have HS := Keep.mk h
  have HF := Keep.mk hfit
  clear h hfit
  have hs1' : ¬ ses < 1 := by omega
  have hs2' : ¬ (255 : Int) < ses := by omega
  have hct' : ¬ (65536 : Int) < (content.size : Int) := by omega
  go_enter Try.func14, Try.ntmps14
  go_upto_region 6 with (fail)
  clear hs1' hs2' hct'
  have HI0 := Keep.mk (refInv_zero (ses := ses) (st := st) HS.out)
  generalize (((w.alloc (.cells #[.slice av cs.length capv, .int .i64 ses, .string st] 27)).alloc (.cells #[.slice none 0 0, .int .i64 0, .string ⟨#[]⟩] 27)).alloc (.cells #[] 42)) = w3 at *
  clear HS
  go_wp2_with fail
  refine (refSegs_own content w3 (by omega)).mono ?_
  rintro e w4 ⟨sv, rfl, hsv, hb4⟩
  obtain ⟨sa, sc, rfl⟩ := ownsRow_slice hsv
  have HI4 := Keep.mk (HI0.out.below hb4).rebase
  have HSV := Keep.mk hsv
  have hsl : (segs content.data.toList).length ≤ 60000 := by have := length_segs content.data.toList; simp at this; omega
  clear hsv hb4 HI0
  have HG := Keep.mk (goodSeg content.data.toList)
  have HL : Keep ((expand (segs content.data.toList)).length = content.size) := ⟨by rw [expand_segs]; simp⟩
  have HPA := Keep.mk (show putAll ses cs st content = (segs content.data.toList).foldl (putS ses) (cs, st, []) from rfl)
  generalize segs content.data.toList = gs at *
  go_wp2_with fail
  go_loopw [9, 7] (fun i s7 wr => ∃ (k : Nat) (p : Acc) (cv : Value), k ≤ gs.length ∧ i = .int .i64 k ∧ Keep (p = (gs.take k).foldl (putS ses) (cs, st, [])) ∧ Keep (Fit (expand (gs.drop k)).length p) ∧ Keep (RefInv w w4 ses p.1 p.2.1 p.2.2 wr cv s7)) (fun i _ _ => gs.length - (intOf i).toNat)
  case atStart => exact ⟨0, _, _, Nat.zero_le _, rfl, ⟨rfl⟩, ⟨by rw [List.drop_zero, HL.out]; exact HF.out⟩, HI4⟩
  case round =>
    obtain ⟨k, p, cv, hk, rfl, HP, HFt, HI⟩ := hrel
    clear HI4
    by_cases hlt : k < gs.length
    · have hrow := HI.out.kt.row HSV.out (by simp)
      have hsg := Segs.of_owns hrow
      obtain ⟨a', c', hv', hc1, hc2, hparts⟩ := hsg.parts
      simp only [Value.slice.injEq, true_and] at hv'
      obtain ⟨rfl, rfl⟩ := hv'
      obtain ⟨g, hgk⟩ : ∃ g, gs[k]? = some g := ⟨_, List.getElem?_eq_getElem hlt⟩
      obtain ⟨b, o, rfl, hb, c0, c1⟩ := hparts k g hgk
      have hgood := HG.out g (List.mem_of_getElem? hgk)
      have hstep : Keep (putS ses p g = (gs.take (k + 1)).foldl (putS ses) (cs, st, [])) := ⟨by rw [List.take_add_one, hgk, HP.out]; simp⟩
      have hexp : Keep ((expand (gs.drop k)).length = (g.2.length + g.1.toNat) + (expand (gs.drop (k + 1))).length) := ⟨by
        obtain ⟨hlt', hg'⟩ := List.getElem?_eq_some_iff.1 hgk
        rw [List.drop_eq_getElem_cons hlt', hg', expand_cons]; simp; omega⟩
      rw [hexp.out] at HFt
      generalize hrest : (expand (gs.drop (k + 1))).length = rest at *
      have HR := Keep.mk hrest
      clear hrest
      unfold maxLen at hc2
      have k0 : (0 : Int) ≤ k := by omega
      have k1 : (k : Int) < gs.length := by omega
      clear hrow hsg hparts hgk hexp HP HG
      obtain ⟨gn, gd⟩ := g
      rcases hgood with ⟨hd, hn⟩ | ⟨hd, hn⟩
      · simp only at hd hn
        subst hn
        have hde : (mkS gd).toList.isEmpty = false := by
          rw [toList_mkS, data_mkS]
          cases gd with
          | nil => exact absurd rfl hd
          | cons _ _ => rfl
        have hlen : gd.length = (mkS gd).size := (size_mkS gd).symm
        have hfold : Keep (putS ses p (0, gd) = (chunkS gd).foldl (putC ses) p) := ⟨if_neg hd⟩
        rw [hfold.out] at hstep
        have hlen' := Keep.mk hlen
        have hgdk := Keep.mk (data_mkS gd)
        clear hfold hlen hd
        have hgz : (mkS gd).size ≤ 1000000 := by have h1 := HFt.out.stream; have h2 := hlen'.out; simp only at h1; omega
        go_wp2_with fail
        refine (refSplit_any (mkS gd) _ (by omega)).mono ?_
        rintro e w5 ⟨chv, rfl, hch, hb5⟩
        rw [hgdk.out] at hch
        obtain ⟨cha, chc, rfl⟩ := ownsRow_slice hch
        have HI5 := Keep.mk (HI.out.below hb5)
        have HCH := Keep.mk hch
        have hchl : (chunkS gd).length ≤ 1000000 := by have := Chunk.split_length gd; have h2 := hlen'.out; simp only [chunkS, List.length_map]; omega
        have hsum := Keep.mk (bytesS_chunks gd)
        have hpos := Keep.mk (chunkS_pos gd)
        have hft5 : Keep (Fit (rest + bytesS (chunkS gd)) p) := ⟨by rw [hsum.out]; have := HFt.out; simp only [Int.toNat_zero, Nat.add_zero] at this; rwa [Nat.add_comm] at this⟩
        clear hch hb5 HI hsum hgdk hlen' HFt hgz hde c0 c1
        generalize chunkS gd = ch at *
        go_wp2_with fail
        generalize hwo : wr = wo at *
        go_loopw [11, 7] (fun i s7 wr => ∃ (j : Nat) (q : Acc) (cv : Value), j ≤ ch.length ∧ i = .int .i64 j ∧ Keep (q = (ch.take j).foldl (putC ses) p) ∧ Keep (Fit (rest + bytesS (ch.drop j)) q) ∧ Keep (RefInv w w5 ses q.1 q.2.1 q.2.2 wr cv s7)) (fun i _ _ => ch.length - (intOf i).toNat)
        case atStart => exact ⟨0, _, _, Nat.zero_le _, rfl, ⟨rfl⟩, ⟨by rw [List.drop_zero]; exact hft5.out⟩, ⟨HI5.out.rebase⟩⟩
        case round =>
          obtain ⟨j, q, cv, hj, rfl, HQ, HFq, HI⟩ := hrel
          by_cases hltj : j < ch.length
          · have hrow := HI.out.kt.row HCH.out (by simp)
            have hst := Strs.of_owns hrow
            obtain ⟨a', c', hv', hc1', hc2', hparts⟩ := hst.at
            simp only [Value.slice.injEq, true_and] at hv'
            obtain ⟨rfl, rfl⟩ := hv'
            obtain ⟨x, hxj⟩ : ∃ x, ch[j]? = some x := ⟨_, List.getElem?_eq_getElem hltj⟩
            obtain ⟨b2, o2, rfl, hb2, c2⟩ := hparts j x hxj
            have hxpos := hpos.out x (List.mem_of_getElem? hxj)
            have hstep2 : Keep (putC ses q x = (ch.take (j + 1)).foldl (putC ses) p) := ⟨by rw [List.take_add_one, hxj, HQ.out]; simp⟩
            have hbs := bytesS_drop hxj
            rw [hbs] at HFq
            have hfit3 : Keep (Fit (rest + bytesS (ch.drop (j + 1))) (putC ses q x)) := ⟨Fit.chunk (by have := HFq.out; rwa [show rest + (x.size + bytesS (ch.drop (j + 1))) = rest + bytesS (ch.drop (j + 1)) + x.size by omega] at this) hxpos⟩
            unfold maxLen at hc2'
            have j0 : (0 : Int) ≤ j := by omega
            have j1 : (j : Int) < ch.length := by omega
            have hxs : x.size ≤ 1000000 := by have := HFq.out.stream; omega
            clear hrow hst hparts hxj hbs HQ hft5 HI5
            have HI1 := Keep.mk (HI.out.alloc (.cells #[.string x] 9))
            go_wp2_with fail
            refine (refSum_any (l := [x]) (Strs.made wr [x] 9 (show (1 : Nat) ≤ maxLen by decide)) (by simp [cat]; omega)).mono ?_
            rintro e w6 ⟨rfl, hb6⟩
            have hcatx : mkS (B2.digest (cat [x])) = dig x := by simp [cat, dig]
            rw [hcatx]
            have HI6 := Keep.mk (HI1.out.below hb6)
            have c26 := (hb6.cell (p := ⟨b2, o2 + j, none⟩) (by show b2 < (wr.alloc _).heap.size; simp; omega)).trans ((((Below.refl wr.heap.size wr).alloc (Nat.le_refl _) (.cells #[.string x] 9)).cell (p := ⟨b2, o2 + j, none⟩) hb2).trans c2)
            have HX6 := Keep.mk (And.intro c26 (show b2 < w6.heap.size by have := hb6.size; simp at this; omega))
            clear hcatx hb6 HI1 HI c2 c26
            obtain ⟨d, hd⟩ : ∃ d, d = dig x := ⟨_, rfl⟩
            have HDG := Keep.mk hd
            rw [← hd]
            clear hd
            obtain ⟨ca, cc, rfl, _⟩ := HI6.out.chk.parts
            have g0 := HI6.out.box.cell 0
            have g1 := HI6.out.box.cell 1
            have g2 := HI6.out.box.cell 2
            simp only [storeCells, List.getElem?_cons_zero, List.getElem?_cons_succ] at g0 g1 g2
            go_wp2_with fail
            refine (refFind_any (d := d) HI6.out.chk).mono ?_
            rintro e w7 ⟨he, hb7⟩
            have HI7 := Keep.mk (HI6.out.below hb7)
            have c27 := (hb7.cell (p := ⟨b2, o2 + j, none⟩) HX6.out.2).trans HX6.out.1
            have HX7 := Keep.mk (And.intro c27 (show b2 < w7.heap.size by have h1 := hb7.size; have h2 := HX6.out.2; omega))
            have hFq := HFq.out
            clear g0 g1 g2 hb7 c27 HX6 HI6
            unfold Found at he
            cases hf : find d q.1 with
            | some y =>
              have hy1 := hFq.chunks _ (find_mem hf)
              obtain ⟨ys, yo, yn⟩ := y
              rw [hf] at he
              simp only [Option.map_some, Option.getD_some, Option.isSome_some, extA] at he
              subst he
              have HPC : Keep (putC ses q x = (q.1, q.2.1, addE q.2.2 (ys, yo, yn))) := ⟨putC_some (by rw [← HDG.out]; exact hf)⟩
              rw [HPC.out] at hstep2 hfit3
              have HY1 := Keep.mk hy1
              clear hf hy1 hFq HPC
              go_upto_region 22 with (fail)
              have HI8 := Keep.mk (HI7.out.alloc (.cells #[.int .i64 ys, .int .i64 yo, .int .i64 yn] 42))
              have hO := HFq.out.outs
              have HC := refAdd_any HI8.out.out (x := (ys, yo, yn)) HFq.out.fine (by omega) HY1.out (by omega) HI8.out.bel.size
              simp only [extA] at HC
              have HC' := Keep.mk HC
              clear HC HI7 hO
              go_wp2_with fail
              refine HC'.out.mono ?_
              rintro e w9 ⟨ov9, rfl, he9, hb9, ho9⟩
              have HI9 := Keep.mk (HI8.out.added he9 hb9 ho9)
              clear he9 hb9 ho9 HI8 HC'
              go_wp2_with fail
              go_roundw
              case rel => exact ⟨j + 1, _, _, by omega, by go_num, hstep2, hfit3, HI9⟩
              case measure => simp [intOf]; omega
            | none =>
              rw [hf] at he
              simp only [Option.map_none, Option.getD_none, Option.isSome_none, extA] at he
              subst he
              have HPC : Keep (putC ses q x = (q.1 ++ [(d, (ses, (q.2.1.size : Int), (x.size : Int)))], q.2.1 ++ x, addE q.2.2 (ses, (q.2.1.size : Int), (x.size : Int)))) := ⟨by rw [HDG.out]; exact putC_none (by rw [← HDG.out]; exact hf)⟩
              rw [HPC.out] at hstep2 hfit3
              clear hf
              go_upto_region 19 with (fail)
              have hfst := hFq.stream
              have hffew := hFq.few
              have hfout := hFq.outs
              have HB8 : Keep (Below w7.heap.size w7 (w7.alloc (.cells #[.int .i64 0, .int .i64 0, .int .i64 0] 42))) := ⟨(Below.refl w7.heap.size w7).alloc (Nat.le_refl _) (.cells #[.int .i64 0, .int .i64 0, .int .i64 0] 42)⟩
              have HE8 := Keep.mk (Arr.new w7 42 [.int .i64 0, .int .i64 0, .int .i64 0])
              have hX0 : (w7.alloc (.cells #[.int .i64 0, .int .i64 0, .int .i64 0] 42)).cell? ⟨b2, o2 + j, none⟩ = some (.string x) := (HB8.out.cell (p := ⟨b2, o2 + j, none⟩) HX7.out.2).trans HX7.out.1
              have hP1 := (HI7.out.below HB8.out).box.cell 1
              have hP2 := (HI7.out.below HB8.out).box.cell 2
              have hPl := (HI7.out.below HB8.out).box.lt
              have hEl := HE8.out.lt
              have hEf := HE8.out.frozen 0
              have hEf1 := HE8.out.frozen 1
              have hEf2 := HE8.out.frozen 2
              have hE0 := HE8.out.cell 0
              have hE1 := HE8.out.cell 1
              have hE2 := HE8.out.cell 2
              have hXl : b2 < (w7.alloc (.cells #[.int .i64 0, .int .i64 0, .int .i64 0] 42)).heap.size := by have := HX7.out.2; simp; omega
              simp only [storeCells, List.getElem?_cons_zero, List.getElem?_cons_succ] at hP1 hP2 hE0 hE1 hE2
              clear hFq HPC
              generalize (w7.alloc (.cells #[.int .i64 0, .int .i64 0, .int .i64 0] 42)) = w8 at *
              obtain ⟨E, hE⟩ : ∃ E, w7.heap.size = E := ⟨_, rfl⟩
              rw [hE] at HB8 HE8 hEl hEf hEf1 hEf2 hE0 hE1 hE2
              simp only [hE]
              have HEq := Keep.mk hE
              clear hE
              go_region
              have HB9 : Keep (Below w7.heap.size w7 (((w8.setCell ⟨E, 0, none⟩ (.int .i64 ses)).setCell ⟨E, 1, none⟩ (.int .i64 (q.2.1.size : Int))).setCell ⟨E, 2, none⟩ (.int .i64 (x.size : Int))).drew) := ⟨by
                rw [HEq.out]
                exact (((HB8.out.setCell (p := ⟨E, 0, none⟩) (Nat.le_refl _) _).setCell (p := ⟨E, 1, none⟩) (Nat.le_refl _) _).setCell (p := ⟨E, 2, none⟩) (Nat.le_refl _) _).drew⟩
              have HE9 : Keep (Arr (((w8.setCell ⟨E, 0, none⟩ (.int .i64 ses)).setCell ⟨E, 1, none⟩ (.int .i64 (q.2.1.size : Int))).setCell ⟨E, 2, none⟩ (.int .i64 (x.size : Int))).drew E 42 (extV (ses, (q.2.1.size : Int), (x.size : Int)))) := ⟨(((HE8.out.set 0 _).set 1 _).set 2 _).drew⟩
              clear hX0 hP1 hP2 hPl hEl hEf hEf1 hEf2 hE0 hE1 hE2 hXl HB8 HE8
              generalize (((w8.setCell ⟨E, 0, none⟩ (.int .i64 ses)).setCell ⟨E, 1, none⟩ (.int .i64 (q.2.1.size : Int))).setCell ⟨E, 2, none⟩ (.int .i64 (x.size : Int))).drew = w9 at *
              go_upto_region 20 with (fail)
              have HI9 := Keep.mk (HI7.out.below HB9.out)
              have hX0 := (HB9.out.cell (p := ⟨b2, o2 + j, none⟩) HX7.out.2).trans HX7.out.1
              have hXl : b2 < w9.heap.size := by have := HX7.out.2; have := HB9.out.size; omega
              have hP2 := HI9.out.box.cell 2
              have hPf2 := HI9.out.box.frozen 2
              have hPl := HI9.out.box.lt
              simp only [storeCells, List.getElem?_cons_zero, List.getElem?_cons_succ] at hP2
              have hcat := fun (wx : World) => run_string_add_sum (P := Try.prog) wx q.2.1 x (by omega)
              clear HI7 HB9 HX7 HEq
              go_region
              have HI10 := Keep.mk ((HI9.out.streamed (q.2.1 ++ x)).drewN 1)
              have HE10 := Keep.mk (((OnlyT.setCell (OnlyT.refl [27] w9) (a := ⟨w.heap.size, 2, none⟩) HI9.out.box (by simp) (.string (q.2.1 ++ x))).arr HE9.out (by decide)).drewN 1)
              rw [show ∀ (wx : World), wx.drewN 1 = wx.drew from fun _ => rfl] at HI10 HE10
              clear hX0 hP2 hPf2 hPl hXl hcat HI9 HE9
              generalize (w9.setCell ⟨w.heap.size, 2, none⟩ (.string (q.2.1 ++ x))).drew = w10 at *
              go_upto_region 21 with (fail)
              have hlc : q.1.length ≤ 1000000 := by omega
              obtain ⟨i0, hi, hz0, hz1, hz2⟩ := info_parts Try.infoChk
              apply wp_region_inv10 (P := Try.prog) u96 u97 u98 u99 u100 u101 u102 u103 u104 u105 (Rows21 w w5 w10 ses q.1 (q.2.1 ++ x) q.2.2 (.slice ca q.1.length cc) u7 d (ses, (q.2.1.size : Int), (x.size : Int)) E)
              · kernel_rfl
              · kernel_rfl
              · exact Rows21.zero ..
              · refine ⟨?_, ?_, ?_, ?_, ?_, ?_, ?_, ?_, ?_, ?_, ?_, trivial⟩
                · intro L v0 v1 v2 v3 v4 v5 v6 v7 v8 v9 wx hL hd hR K' hK
                  rw [if_pos (by rfl)]
                  clear hd
                  have HR := Keep.mk hR
                  have HK := Keep.mk hK
                  clear hR hK
                  go_simp
                  exact HK.out _ _ _ _ _ _ _ _ _ _ _ (HR.out.put0 hL)
                · intro L v0 v1 v2 v3 v4 v5 v6 v7 v8 v9 wx hL hd hR K' hK
                  rw [if_pos (by rfl)]
                  clear hd
                  have HR := Keep.mk hR
                  have HK := Keep.mk hK
                  clear hR hK
                  go_simp
                  exact HK.out _ _ _ _ _ _ _ _ _ _ _ (HR.out.put1)
                · intro L v0 v1 v2 v3 v4 v5 v6 v7 v8 v9 wx hL hd hR K' hK
                  rw [if_pos (by rfl)]
                  have hd' : L 1 = true := by simpa [Region.binds] using hd
                  clear hd
                  have HR := Keep.mk hR
                  have HK := Keep.mk hK
                  clear hR hK
                  have h10 := HR.out.no10 (i := 2) (by decide) hL (by simp)
                  have hb0 := (HI10.out.below (HR.out.bel h10)).box.cell 0
                  have hbl := (HI10.out.below (HR.out.bel h10)).box.lt
                  simp only [storeCells, List.getElem?_cons_zero] at hb0
                  obtain rfl := HR.out.box hd'
                  go_simp
                  exact HK.out _ _ _ _ _ _ _ _ _ _ _ (HR.out.put2)
                · intro L v0 v1 v2 v3 v4 v5 v6 v7 v8 v9 wx hL hd hR K' hK
                  rw [if_pos (by rfl)]
                  have hd' : L 0 = true ∧ L 2 = true := by simpa [Region.binds] using hd
                  clear hd
                  have HR := Keep.mk hR
                  have HK := Keep.mk hK
                  clear hR hK
                  obtain ⟨h8, h10⟩ := HR.out.before3 hL
                  obtain rfl := HR.out.old hd'.2
                  refine wp_append_slc2 (.tmp 96) (.tmp 98) 25 rfl w10.heap.size 44 i0 (.agg #[.string ⟨#[]⟩, .int .i64 0, .int .i64 0, .int .i64 0]) 4 40 Try.underlying25 hi hz0 hz1 hz2 rfl (by decide) v0 0 [] rfl (HR.out.made hd'.1 hL) _ q.1.length (chkCells q.1) rfl (HI10.out.below (HR.out.bel h10)).chk (chkCells_one _) (by unfold maxLen; omega) (by omega) (HR.out.bel h10).size ?_
                  intro v' wy hown hg hat
                  exact HK.out _ _ _ _ _ _ _ _ _ _ _ (HR.out.put3 hL hd'.1 hd'.2 hown hg hat)
                · intro L v0 v1 v2 v3 v4 v5 v6 v7 v8 v9 wx hL hd hR K' hK
                  rw [if_pos (by rfl)]
                  clear hd
                  have HR := Keep.mk hR
                  have HK := Keep.mk hK
                  clear hR hK
                  go_simp
                  exact HK.out _ _ _ _ _ _ _ _ _ _ _ (HR.out.put4)
                · intro L v0 v1 v2 v3 v4 v5 v6 v7 v8 v9 wx hL hd hR K' hK
                  rw [if_pos (by rfl)]
                  clear hd
                  have HR := Keep.mk hR
                  have HK := Keep.mk hK
                  clear hR hK
                  have h10 : L 10 = false := by
                    cases hh : L 10 with
                    | false => rfl
                    | true => exact absurd (HR.out.o6 (HR.out.o7 (HR.out.o8 (HR.out.o10 hh).1).2)).2 (by simp [hL])
                  have hE := HE10.out.below (HR.out.bel h10) HE10.out.lt
                  have hE0 := hE.cell 0
                  have hE1 := hE.cell 1
                  have hE2 := hE.cell 2
                  have hEl := hE.lt
                  simp only [extV, List.getElem?_cons_zero, List.getElem?_cons_succ] at hE0 hE1 hE2
                  clear hE
                  go_simp
                  exact HK.out _ _ _ _ _ _ _ _ _ _ _ (HR.out.put5)
                · intro L v0 v1 v2 v3 v4 v5 v6 v7 v8 v9 wx hL hd hR K' hK
                  rw [if_pos (by rfl)]
                  have hd' : L 4 = true ∧ L 5 = true := by simpa [Region.binds] using hd
                  clear hd
                  have HR := Keep.mk hR
                  have HK := Keep.mk hK
                  clear hR hK
                  obtain rfl := HR.out.dg hd'.1
                  obtain rfl := HR.out.ext hd'.2
                  unfold extA at *
                  go_simp
                  exact HK.out _ _ _ _ _ _ _ _ _ _ _ (HR.out.put6 hd'.1 hd'.2)
                · intro L v0 v1 v2 v3 v4 v5 v6 v7 v8 v9 wx hL hd hR K' hK
                  rw [if_pos (by rfl)]
                  have hd' : L 6 = true := by simpa [Region.binds] using hd
                  clear hd
                  have HR := Keep.mk hR
                  have HK := Keep.mk hK
                  clear hR hK
                  obtain rfl := HR.out.chk hd'
                  go_simp
                  exact HK.out _ _ _ _ _ _ _ _ _ _ _ (HR.out.put7 hL hd')
                · intro L v0 v1 v2 v3 v4 v5 v6 v7 v8 v9 wx hL hd hR K' hK
                  rw [if_pos (by rfl)]
                  have hd' : L 3 = true ∧ L 7 = true := by simp [Region.binds] at hd; exact ⟨hd.1, hd.2.1⟩
                  clear hd
                  have HR := Keep.mk hR
                  have HK := Keep.mk hK
                  clear hR hK
                  have h10 := HR.out.no10 (i := 8) (by decide) hL (by simp)
                  obtain ⟨g, rfl, hA, hg0, _, _⟩ := HR.out.lit hd'.2 hL
                  refine wp_append_slc2 (.tmp 99) (.tmp 103) 25 rfl w10.heap.size 44 i0 (.agg #[.string ⟨#[]⟩, .int .i64 0, .int .i64 0, .int .i64 0]) 4 40 Try.underlying25 hi hz0 hz1 hz2 rfl (by decide) v3 q.1.length (chkCells q.1) rfl (HR.out.copy hd'.1 hL) _ 1 (chkV (d, (ses, (q.2.1.size : Int), (x.size : Int)))) rfl ⟨_, _, rfl, Nat.le_refl _, by decide, rfl, .inr ⟨g, 0, rfl, hA.lt, fun j u hj => by rw [Nat.zero_add, hA.cell]; exact hj⟩⟩ (by simp [chkV, extV, Value.oneCell']) (by unfold maxLen; omega) (by omega) (HR.out.bel h10).size ?_
                  intro v' wy hown hg _
                  exact HK.out _ _ _ _ _ _ _ _ _ _ _ (HR.out.put8 hL hd'.1 hd'.2 hown hg)
                · intro L v0 v1 v2 v3 v4 v5 v6 v7 v8 v9 wx hL hd hR K' hK
                  rw [if_pos (by rfl)]
                  clear hd
                  have HR := Keep.mk hR
                  have HK := Keep.mk hK
                  clear hR hK
                  go_simp
                  exact HK.out _ _ _ _ _ _ _ _ _ _ _ (HR.out.put9)
                · intro L v0 v1 v2 v3 v4 v5 v6 v7 v8 v9 wx hL hd hR K' hK
                  rw [if_pos (by rfl)]
                  have HR := Keep.mk hR
                  have HK := Keep.mk hK
                  clear hR hK
                  have hd' : L 8 = true ∧ L 9 = true := by
                    obtain ⟨a, b⟩ : L 9 = true ∧ L 8 = true := by simp [Region.binds] at hd; exact ⟨hd.1, hd.2.1⟩
                    exact ⟨b, a⟩
                  have hb0 := (HI10.out.below (HR.out.bel hL)).box.cell 0
                  have hbl := (HI10.out.below (HR.out.bel hL)).box.lt
                  have hbf := (HI10.out.below (HR.out.bel hL)).box.frozen 0
                  simp only [storeCells, List.getElem?_cons_zero] at hb0
                  obtain rfl := HR.out.ptr hd'.2
                  obtain ⟨a8, c8, rfl⟩ := ownsRow_slice (HR.out.new hd'.1 hL)
                  go_simp
                  exact HK.out _ _ _ _ _ _ _ _ _ _ _ (by have h10 := HR.out.put10 hL hd'.1 hd'.2 HI10.out HE10.out; simp only [List.length_append, List.length_singleton] at h10; exact h10)
              · intro v0 v1 v2 v3 v4 v5 v6 v7 v8 v9 wB hR
                have HI11 := Keep.mk (hR.fin rfl).1
                have HE11 := Keep.mk (hR.fin rfl).2
                clear hR HI10 HE10
                have hE0 := HE11.out.cell 0
                have hE1 := HE11.out.cell 1
                have hE2 := HE11.out.cell 2
                have hEl := HE11.out.lt
                simp only [extV, List.getElem?_cons_zero, List.getElem?_cons_succ] at hE0 hE1 hE2
                have HC := refAdd_any HI11.out.out (x := (ses, (q.2.1.size : Int), (x.size : Int))) HFq.out.fine (by omega) ⟨by simp, by simp; omega, by simp, by simp; omega⟩ (by omega) HI11.out.bel.size
                simp only [extA] at HC
                have HC' := Keep.mk HC
                clear HC
                go_wp2_with fail
                refine HC'.out.mono ?_
                rintro e w9 ⟨ov9, rfl, he9, hb9, ho9⟩
                have HI12 := Keep.mk (HI11.out.added he9 hb9 ho9)
                clear he9 hb9 ho9 HI11 HC' hE0 hE1 hE2
                go_wp2_with fail
                go_roundw
                case rel => exact ⟨j + 1, _, _, by omega, by go_num, hstep2, hfit3, HI12⟩
                case measure => simp [intOf]; omega
          · have hjc : j = ch.length := by omega
            subst hjc
            have HQ2 : Keep (q = (gs.take (k + 1)).foldl (putS ses) (cs, st, [])) := ⟨by rw [HQ.out, List.take_length]; exact hstep.out⟩
            have HF2 : Keep (Fit (expand (gs.drop (k + 1))).length q) := ⟨by have := HFq.out; rw [List.drop_length] at this; rw [HR.out]; exact this⟩
            have HI9 := Keep.mk (HI.out.back HI5.out.kt)
            clear HQ HFq HI HI5 hft5 hstep
            go_wp2_with fail
            go_roundw
            case rel => exact ⟨k + 1, _, _, by omega, by go_num, HQ2, HF2, HI9⟩
            case measure => simp [intOf]; omega
      · simp only at hd hn
        subst hd
        rw [show mkS [] = ⟨#[]⟩ from rfl] at c1
        obtain ⟨n, rfl⟩ := Int.eq_ofNat_of_zero_le (show 0 ≤ gn by omega)
        have hput : Keep (putS ses p ((n : Int), []) = (p.1, p.2.1, addE p.2.2 (0, 0, (n : Int)))) := ⟨if_pos rfl⟩
        rw [hput.out] at hstep
        have hfit2 : Keep (Fit rest (p.1, p.2.1, addE p.2.2 (0, 0, (n : Int)))) := ⟨Fit.hole (n := n) (by have := HFt.out; simp only [List.length_nil, Int.toNat_natCast] at this; rwa [Nat.zero_add, Nat.add_comm] at this) (by omega)⟩
        clear hput
        go_upto_region 11 with (fail)
        have HX := HFt.out
        have hO := HX.outs
        have hFine := HX.fine
        have hfit1 := HX.stream
        simp only [List.length_nil, Int.toNat_natCast, Nat.zero_add] at hO hfit1
        have HC := refAdd_any HI.out.out (x := (0, 0, (n : Int))) (k := 1000000 - ([].length + (n : Int).toNat + rest)) hFine (by omega) ⟨by simp, by simp, by simp, by simp; omega⟩ (by omega) HI.out.bel.size
        simp only [extA] at HC
        have HC' := Keep.mk HC
        clear HC HX hO hFine hfit1
        go_wp2_with fail
        refine HC'.out.mono ?_
        rintro e w5 ⟨ov5, rfl, he5, hb5, ho5⟩
        have HI5 := Keep.mk (HI.out.added he5 hb5 ho5)
        clear he5 hb5 ho5 HC' HI
        go_wp2_with fail
        go_roundw
        case rel => exact ⟨k + 1, _, _, by omega, by go_num, hstep, ⟨by rw [HR.out]; exact hfit2.out⟩, HI5⟩
        case measure => simp [intOf]; omega
    · have hkg : k = gs.length := by omega
      subst hkg
      have HE : Keep (p = putAll ses cs st content) := ⟨by rw [HP.out, List.take_length, HPA.out]⟩
      obtain ⟨ca, cc, rfl, _⟩ := HI.out.chk.parts
      have hp0 := HI.out.box.cell 0
      have hp1 := HI.out.box.cell 1
      have hp2 := HI.out.box.cell 2
      have hr0 := HI.out.res.cell 0
      have hr1 := HI.out.res.cell 1
      have hr2 := HI.out.res.cell 2
      have hf0 := HI.out.res.frozen 0
      have hf1 := HI.out.res.frozen 1
      have hf2 := HI.out.res.frozen 2
      have hrl := HI.out.res.lt
      simp only [storeCells, List.getElem?_cons_zero, List.getElem?_cons_succ] at hp0 hp1 hp2 hr0 hr1 hr2
      go_wp2
      have HFIN := Keep.mk (store_filled (a := .slice ca p.1.length cc) (b := ses) (c := p.2.1) HI.out.res)
      have HOW := Keep.mk (HFIN.out.2.row HI.out.out (by decide))
      have HBW := Keep.mk (((HI.out.bel.setCell (p := ⟨w.heap.size + 1, 0, none⟩) (by show w.heap.size ≤ w.heap.size + 1; omega) (.slice ca p.1.length cc)).setCell (p := ⟨w.heap.size + 1, 1, none⟩) (by show w.heap.size ≤ w.heap.size + 1; omega) (.int .i64 ses)).setCell (p := ⟨w.heap.size + 1, 2, none⟩) (by show w.heap.size ≤ w.heap.size + 1; omega) (.string p.2.1))
      have HCW : Keep (Chks (((wr.setCell ⟨w.heap.size + 1, 0, none⟩ (.slice ca p.1.length cc)).setCell ⟨w.heap.size + 1, 1, none⟩ (.int .i64 ses)).setCell ⟨w.heap.size + 1, 2, none⟩ (.string p.2.1)) (.slice ca p.1.length cc) p.1) := ⟨by
        rcases HI.out.own with h1 | h1
        · exact h1.below HBW.out (Nat.le_refl _)
        · exact Slc.of_owns (HFIN.out.2.row h1 (by decide))⟩
      have c0 := HFIN.out.1.cell 0
      have c1 := HFIN.out.1.cell 1
      have c2 := HFIN.out.1.cell 2
      simp only [storeCells, List.getElem?_cons_zero, List.getElem?_cons_succ] at c0 c1 c2
      clear hp0 hp1 hp2 hr0 hr1 hr2 hf0 hf1 hf2 hrl HFIN HI
      generalize (((wr.setCell ⟨w.heap.size + 1, 0, none⟩ (.slice ca p.1.length cc)).setCell ⟨w.heap.size + 1, 1, none⟩ (.int .i64 ses)).setCell ⟨w.heap.size + 1, 2, none⟩ (.string p.2.1)) = wf at *
      refine bodyPost_ret (v := .tuple #[.agg #[.slice ca p.1.length cc, .int .i64 ses, .string p.2.1], u7, .int .i64 0]) (by simp [results, Try.results14, go_sem, c0, c1, c2]) rfl ?_
      rw [← HE.out]
      exact ⟨_, _, rfl, HCW.out, HOW.out, HBW.out⟩
end Go.Proofs.Ytomlknjpaielgaa
