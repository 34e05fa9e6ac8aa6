/- The law ChunkstoreChunks. No condition. -/
import Derived.Test.YtomlknjpaielgaaChunksMath
import Derived.Test.YtomlknjpaielgaaLaw
import Derived.Deep.DeepMust
namespace Go.Proofs.Ytomlknjpaielgaa
set_option maxRecDepth 100000
open Go.RowKit Go.Shelf Go.Proofs.Ytomlknjpaielgaa.Store Go.Proofs.Ytomlknjpaielgaa.Sparse Go.ChangeShapes Go.WideShapes Go.ChangeAt
open Go.ChangeMaps (open_string shut_string)

theorem low_on {w W W' : World} (hb : Below W.heap.size W W') (h : Below w.heap.size w W) : Below w.heap.size w W' := h.trans (hb.mono h.size)
theorem low_alloc {w W : World} (h : Below w.heap.size w W) (o : Obj) : Below w.heap.size w (W.alloc o) := h.alloc h.size o
theorem low_allocd {w W : World} (h : Below w.heap.size w W.drew) (o : Obj) : Below w.heap.size w (W.alloc o).drew := Below.alloc (w := W.drew) h h.size o

set_option maxHeartbeats 8000000 in
theorem chunksLaw_any (s : ByteArray) (w : World) (_hs : s.size ≤ maxLen) :
    Calls Try.prog 7 #[.string s] w fun e w' => e = .returned (.bool true) ∧ Below w.heap.size w w' := by
  go_enter Try.func7, Try.ntmps7
  by_cases hbig : (1200 : Int) < (s.size : Int)
  · go_wp2_with fail
    refine (awake_any w).mono ?_
    rintro e w1 ⟨rfl, hb1⟩
    go_wp2_with fail
    go_ret
    exact ⟨rfl, hb1⟩
  · have hsm : s.size ≤ 1200 := by omega
    go_wp2_with fail
    refine (collides_any (l := [s]) (Strs.made w [s] 9 (show (1 : Nat) ≤ maxLen by decide)) (by simp [bytesS]; omega)).mono ?_
    rintro e w1 ⟨⟨cb, rfl, hcol⟩, hb1⟩
    have B1 : Keep (Below w.heap.size w w1) := ⟨((Below.refl w.heap.size w).alloc (Nat.le_refl _) (.cells #[.string s] 9)).trans (hb1.mono (by simp))⟩
    have HCOL := Keep.mk hcol
    clear hb1 hcol
    cases cb with
    | true =>
      go_wp2_with fail
      refine (awake_any w1).mono ?_
      rintro e w2 ⟨rfl, hb2⟩
      have B2 := Keep.mk (B1.out.trans (hb2.mono B1.out.size))
      clear hb2
      go_wp2_with fail
      go_ret
      exact ⟨rfl, B2.out⟩
    | false =>
      have HINJ := Keep.mk (HCOL.out rfl)
      clear HCOL
      go_wp2_with fail
      refine (segSplit_any s w1 (by omega)).mono ?_
      rintro e w2 ⟨sv, rfl, hsv, hb2⟩
      obtain ⟨sa, sc, rfl⟩ := ownsRow_slice hsv
      have SG : Keep (Segs w2 (.slice sa (segs s.data.toList).length sc) (segs s.data.toList)) := ⟨Segs.of_owns hsv⟩
      have B2 := Keep.mk (B1.out.trans (hb2.mono B1.out.size))
      have hsl : (segs s.data.toList).length ≤ 100000 := by have := length_segs s.data.toList; simp at this; omega
      clear hsv hb2 B1
      obtain ⟨gs, hgs⟩ : ∃ gs, gs = segs s.data.toList := ⟨_, rfl⟩
      rw [← hgs] at SG hsl ⊢
      have HGS := Keep.mk hgs
      clear hgs
      go_wp2_with fail
      go_loopw [28] (fun i wr => ∃ k : Nat, k ≤ gs.length ∧ i = .int .i64 k ∧ Keep (∀ j g, j < k → gs[j]? = some g → g.2 ≠ []) ∧ Keep (Below w2.heap.size w2 wr)) (fun i _ => gs.length - (intOf i).toNat)
      case atStart => exact ⟨0, Nat.zero_le _, rfl, ⟨fun j g hj => absurd hj (Nat.not_lt_zero _)⟩, ⟨Below.refl _ _⟩⟩
      case round =>
        obtain ⟨k, hk, rfl, HD, HB⟩ := hrel
        by_cases hlt : k < gs.length
        · have k0 : (0 : Int) ≤ k := by omega
          have k1 : (k : Int) < gs.length := by omega
          obtain ⟨a', c', hv', hc1, hc2, hparts⟩ := SG.out.parts
          simp only [Value.slice.injEq, true_and] at hv'
          obtain ⟨rfl, rfl⟩ := hv'
          obtain ⟨g, hgk⟩ : ∃ g, gs[k]? = some g := ⟨_, List.getElem?_eq_getElem hlt⟩
          obtain ⟨b, o, rfl, hb, c0, c1⟩ := hparts k g hgk
          have d0 := (HB.out.cell (p := ⟨b, o + k * 2, none⟩) hb).trans c0
          have d1 := (HB.out.cell (p := ⟨b, o + k * 2 + 1, none⟩) hb).trans c1
          have hbl : b < wr.heap.size := Nat.lt_of_lt_of_le hb HB.out.size
          have HGK := Keep.mk hgk
          obtain ⟨gn, gd⟩ := g
          simp only at d0 d1
          have hbr := HB.out.alloc HB.out.size (.cells #[.int .i64 gn, .string (mkS gd)] 50)
          have HBR := Keep.mk hbr
          unfold maxLen at hc2
          clear hparts hgk c0 c1 hbr
          by_cases hge : gd = []
          · subst hge
            rw [show mkS [] = ⟨#[]⟩ from rfl] at d1 HBR
            have BW := Keep.mk (B2.out.trans (HBR.out.mono B2.out.size))
            go_wp2_with fail
            refine (awake_any _).mono ?_
            rintro e w3 ⟨rfl, hb3⟩
            have B3 := Keep.mk (BW.out.trans (hb3.mono BW.out.size))
            clear hb3
            go_wp2_with fail
            go_ret
            exact ⟨rfl, B3.out⟩
          · have hde : (mkS gd).toList.isEmpty = false := by
              rw [toList_mkS, data_mkS]
              cases gd with
              | nil => exact absurd rfl hge
              | cons _ _ => rfl
            have HGE := Keep.mk hge
            clear hge
            go_wp2_with fail
            go_roundw
            case rel => exact ⟨k + 1, by omega, by go_num, ⟨fun j g hj hg => by
              by_cases hjk : j < k
              · exact HD.out j g hjk hg
              · obtain rfl : j = k := by omega
                rw [HGK.out] at hg
                cases hg
                exact HGE.out⟩, HBR⟩
            case measure => simp [intOf]; omega
        · have hkg : k = gs.length := by omega
          subst hkg
          have HND : Keep (∀ g ∈ segs s.data.toList, g.2 ≠ []) := ⟨fun g hg => by
            rw [← HGS.out] at hg
            obtain ⟨j, hj⟩ := List.mem_iff_getElem?.1 hg
            exact HD.out j g (List.getElem?_eq_some_iff.1 hj).1 hj⟩
          have HC := Keep.mk (chunks_said HND.out HINJ.out)
          have BW := Keep.mk (B2.out.trans (HB.out.mono B2.out.size))
          have hfit := Keep.mk (fit_nil s.size (by omega))
          clear HD HB B2 SG HGS HINJ HND
          go_wp2_with fail
          refine (put_any (content := s) (ses := 3) (st := ⟨#[]⟩) (Chks.nil _) (by decide) (by decide) (by omega) hfit.out).mono ?_
          rintro e w3 ⟨cv, ev, rfl, hcv, hev, hb3⟩
          obtain ⟨ca, cc, rfl⟩ := ownsRow_slice hcv
          obtain ⟨ea, ec, rfl⟩ := ownsRow_slice hev
          have BW3 := Keep.mk (BW.out.trans (hb3.mono BW.out.size))
          have HCV : Keep (Chks w3 (.slice ca (putAll 3 [] ⟨#[]⟩ s).1.length cc) (putAll 3 [] ⟨#[]⟩ s).1) := ⟨OwnChks.chks hcv⟩
          clear hcv hev hb3 BW hfit
          generalize putAll 3 [] ⟨#[]⟩ s = r at *
          obtain ⟨r1, r2, r3⟩ := r
          simp only at HC HCV ⊢
          go_upto_region 10 with (fail)
          have hb4 : Below w3.heap.size w3 (w3.alloc (.cells #[.slice ca r1.length cc, .int .i64 3, .string r2] 27)) := (Below.refl _ _).alloc (Nat.le_refl _) _
          have HG : Keep (Arr (w3.alloc (.cells #[.slice ca r1.length cc, .int .i64 3, .string r2] 27)) w3.heap.size 27 (storeCells (.slice ca r1.length cc) 3 r2)) := ⟨Arr.new w3 27 (storeCells (.slice ca r1.length cc) 3 r2)⟩
          have HC4 := Keep.mk (HCV.out.below hb4 (Nat.le_refl _))
          have BW4 := Keep.mk (BW3.out.trans (hb4.mono BW3.out.size))
          clear hb4 HCV BW3
          generalize (w3.alloc (.cells #[.slice ca r1.length cc, .int .i64 3, .string r2] 27)) = w4 at *
          generalize w3.heap.size = G at *
          have hmm := @run_makeMap Try.prog
          go_upto_region 12 with (fail)
          clear hmm
          have hM : SetIs (w4.alloc (.map #[] 0)) w4.heap.size [] := MapIs.made SK w4
          have hb5 : Below w4.heap.size w4 (w4.alloc (.map #[] 0)) := (Below.refl _ _).alloc (Nat.le_refl _) _
          have hMl : w4.heap.size < (w4.alloc (.map #[] 0)).heap.size := by simp
          go_wp2_with fail
          refine (split_any s _ (by omega)).mono ?_
          rintro e w6 ⟨chv, rfl, hch, hb6⟩
          obtain ⟨cha, chc, rfl⟩ := ownsRow_slice hch
          have HM := Keep.mk (MapIs.below hM hb6 hMl)
          have HB6 := Keep.mk (hb5.trans (hb6.mono hb5.size))
          have HCH : Keep (w6.ownsRow (w4.heap.size + 1) 9 1 (.slice cha (chunkS s.data.toList).length chc) (chunkS s.data.toList).length ((chunkS s.data.toList).map Value.string)) := ⟨by rw [World.size_alloc] at hch; exact hch⟩
          have hchl : (chunkS s.data.toList).length ≤ 1200 := by have := length_chunkS s.data.toList; simp at this; omega
          have HCZ : Keep (∀ x ∈ chunkS s.data.toList, x.size ≤ 1200) := ⟨fun x hx => by have := size_chunkS hx; simp at this; omega⟩
          have HJS : Keep (∀ k, k ≤ (chunkS s.data.toList).length → (joinS (((chunkS s.data.toList).take k).foldl addNew [])).size ≤ 1200) := ⟨fun k _ => by have := size_joinS_take (m := s.data.toList) k; simp at this; omega⟩
          clear hM hb5 hMl hch hb6
          generalize chunkS s.data.toList = ch at *
          go_wp2_with fail
          go_loopw [48, 9] (fun i s9 wr => ∃ k : Nat, k ≤ ch.length ∧ i = .int .i64 k ∧ s9 = .string (joinS ((ch.take k).foldl addNew [])) ∧ Keep (MapIs SK wr w4.heap.size (((ch.take k).foldl addNew []).map fun d => (d, Value.bool true))) ∧ Keep (Below w4.heap.size w4 wr) ∧
            Keep (wr.ownsRow (w4.heap.size + 1) 9 1 (.slice cha ch.length chc) ch.length (ch.map Value.string))) (fun i _ _ => ch.length - (intOf i).toNat)
          case atStart => exact ⟨0, Nat.zero_le _, rfl, rfl, HM, HB6, HCH⟩
          case round =>
            obtain ⟨k, hk, rfl, rfl, HS, HB, HR⟩ := hrel
            clear HM HB6 HCH
            by_cases hlt : k < ch.length
            · have k0 : (0 : Int) ≤ k := by omega
              have k1 : (k : Int) < ch.length := by omega
              obtain ⟨_, _, hcv, hcl1, hcl2, hcp⟩ := (Strs.of_owns HR.out).at
              simp only [Value.slice.injEq, true_and] at hcv
              obtain ⟨rfl, rfl⟩ := hcv
              obtain ⟨x, hxk⟩ : ∃ x, ch[k]? = some x := ⟨_, List.getElem?_eq_getElem hlt⟩
              obtain ⟨b, o, rfl, hb, c0⟩ := hcp k x hxk
              have hxz := HCZ.out x (List.mem_of_getElem? hxk)
              have hj1 := HJS.out k hk
              have hnx : Keep ((ch.take (k + 1)).foldl addNew [] = addNew ((ch.take k).foldl addNew []) x) := ⟨by rw [List.take_add_one, hxk, List.foldl_append]; rfl⟩
              generalize (ch.take k).foldl addNew [] = D at *
              have hlk := SetIs.look HS.out x
              unfold maxLen at hcl2
              clear hcp hxk
              by_cases hm : x ∈ D
              · rw [decide_eq_true hm] at hlk
                have HN : Keep (addNew D x = D) := ⟨if_pos hm⟩
                clear hm
                go_wp2_with fail
                go_roundw
                case rel => exact ⟨k + 1, by omega, by go_num, by rw [hnx.out, HN.out], ⟨by rw [hnx.out, HN.out]; exact HS.out⟩, HB, HR⟩
                case measure => simp [intOf]; omega
              · rw [decide_eq_false hm] at hlk
                have HN : Keep (addNew D x = D ++ [x]) := ⟨if_neg hm⟩
                have HP := Keep.mk (putL_new (Value.bool true) hm)
                have hcat := fun (wx : World) => run_string_add_sum (P := Try.prog) wx (joinS D) x (by omega)
                clear hm
                go_wp2_with (at_mapUpdate; go_must (refine wpList_store (K := SK) rfl _ _ _ _ rfl Try.underlying51 rfl HS.out x rfl ?_); intro w7 hM7 hg7; have H7 := Keep.mk (And.intro hM7 hg7); clear hM7 hg7)
                have HS7 : Keep (MapIs SK w7 w4.heap.size ((D ++ [x]).map fun d => (d, Value.bool true))) := ⟨by rw [← HP.out]; exact H7.out.1⟩
                have HB7 := Keep.mk (HB.out.grown H7.out.2 HB.out.size (fun j hj => by cases hj; exact Nat.le_refl _))
                have HR7 := Keep.mk (ownRow_kept HR.out H7.out.2 (.inr (fun e => by
                  have := (World.ownsRow.lt HR.out _ e).1
                  omega)))
                go_roundw
                case rel => exact ⟨k + 1, by omega, by go_num, by rw [hnx.out, HN.out, joinS_snoc], ⟨by rw [hnx.out, HN.out]; exact HS7.out⟩, HB7, HR7⟩
                case measure => simp [intOf]; omega
            · have hkl : k = ch.length := by omega
              subst hkl
              rw [List.take_length] at HS ⊢
              rw [show ch.foldl addNew [] = distinct ch from rfl] at HS ⊢
              have hr2 : r2.size ≤ 1200 := by
                have h := HJS.out ch.length (Nat.le_refl _)
                rw [List.take_length] at h
                rw [HC.out.2.2]
                exact h
              clear HJS HCZ HR
              have HCK := Keep.mk HC.out.1
              have HCE := Keep.mk HC.out.2
              clear HC
              generalize distinct ch = D at *
              have HGr := Keep.mk (HG.out.below HB.out HG.out.lt)
              have HCr := Keep.mk (HC4.out.below HB.out (Nat.le_refl _))
              have HBr := Keep.mk (BW4.out.trans (HB.out.mono BW4.out.size))
              have hMl : w4.heap.size < wr.heap.size := MapIs.lt HS.out
              clear HG HC4 BW4 HB
              generalize hwz : wr = wz at *
              generalize w4.heap.size = M at *
              have g0 := HGr.out.cell 0
              have gl := HGr.out.lt
              simp only [storeCells, List.getElem?_cons_zero] at g0
              go_wp2_with fail
              clear g0
              go_loopw [65] (fun i wr => ∃ k : Nat, k ≤ r1.length ∧ i = .int .i64 k ∧ Keep (Below wz.heap.size wz wr)) (fun i _ => r1.length - (intOf i).toNat)
              case atStart => exact ⟨0, Nat.zero_le _, rfl, ⟨Below.refl _ _⟩⟩
              case round =>
                obtain ⟨k, hk, rfl, HQ⟩ := hrel
                by_cases hltk : k < r1.length
                · have k0 : (0 : Int) ≤ k := by omega
                  have k1 : (k : Int) < r1.length := by omega
                  obtain ⟨_, _, hcv, hcl1, hcl2, hcp⟩ := HCr.out.parts
                  simp only [Value.slice.injEq, true_and] at hcv
                  obtain ⟨rfl, rfl⟩ := hcv
                  obtain ⟨c, hck⟩ : ∃ c, r1[k]? = some c := ⟨_, List.getElem?_eq_getElem hltk⟩
                  obtain ⟨b, o, rfl, hb, x0, x1, x2, x3⟩ := hcp k c hck
                  obtain ⟨hok, t, htd, hdig, hval, htz⟩ := HCK.out c (List.mem_of_getElem? hck)
                  obtain ⟨d, xs, xo, xn⟩ := c
                  simp only at x0 x1 x2 x3 hok hdig hval
                  have y0 := (HQ.out.cell (p := ⟨b, o + k * 4, none⟩) hb).trans x0
                  have y1 := (HQ.out.cell (p := ⟨b, o + k * 4 + 1, none⟩) hb).trans x1
                  have y2 := (HQ.out.cell (p := ⟨b, o + k * 4 + 2, none⟩) hb).trans x2
                  have y3 := (HQ.out.cell (p := ⟨b, o + k * 4 + 3, none⟩) hb).trans x3
                  have hbl : b < wr.heap.size := Nat.lt_of_lt_of_le hb HQ.out.size
                  have HOK := Keep.mk hok
                  have HTD := Keep.mk htd
                  have HDI := Keep.mk hdig
                  have HVA := Keep.mk hval
                  unfold maxLen at hcl2
                  clear hcp hck x0 x1 x2 x3 hok htd hdig hval
                  go_upto_region 22 with (fail)
                  have hb7 : Below wr.heap.size wr (wr.alloc (.cells #[.string d, .int .i64 xs, .int .i64 xo, .int .i64 xn] 44)) := (Below.refl _ _).alloc (Nat.le_refl _) _
                  have HB7 : Keep (Arr (wr.alloc (.cells #[.string d, .int .i64 xs, .int .i64 xo, .int .i64 xn] 44)) wr.heap.size 44 (chkV (d, (xs, xo, xn)))) := ⟨Arr.new wr 44 (chkV (d, (xs, xo, xn)))⟩
                  have HQ7 := Keep.mk (HQ.out.trans (hb7.mono HQ.out.size))
                  clear hb7 HQ y0 y1 y2 y3 hbl
                  generalize (wr.alloc (.cells #[.string d, .int .i64 xs, .int .i64 xo, .int .i64 xn] 44)) = w7 at *
                  generalize wr.heap.size = B at *
                  have b0 := HB7.out.cell 0
                  have b1 := HB7.out.cell 1
                  have b2 := HB7.out.cell 2
                  have b3 := HB7.out.cell 3
                  have bl := HB7.out.lt
                  have g2 := (HGr.out.below HQ7.out HGr.out.lt).cell 2
                  have gl7 := (HGr.out.below HQ7.out HGr.out.lt).lt
                  simp only [chkV, extV, storeCells, List.getElem?_cons_zero, List.getElem?_cons_succ] at b0 b1 b2 b3 g2
                  have hA1 := Keep.mk (Strs.made w7 [⟨#[]⟩, ⟨#[]⟩, r2] 9 (show (3 : Nat) ≤ maxLen by decide))
                  have hb8 : Below w7.heap.size w7 (w7.alloc (.cells #[.string ⟨#[]⟩, .string ⟨#[]⟩, .string r2] 9)) := (Below.refl _ _).alloc (Nat.le_refl _) _
                  have HB8 := Keep.mk hb8
                  clear hb8
                  go_wp2_with fail
                  have hA2 : Exts ((w7.alloc (.cells #[.string ⟨#[]⟩, .string ⟨#[]⟩, .string r2] 9)).alloc (.cells #[.int .i64 xs, .int .i64 xo, .int .i64 xn] 42)) (.slice (some ⟨w7.heap.size + 1, 0, none⟩) 1 1) [(xs, xo, xn)] := by
                    have h := Slc.made (w := w7.alloc (.cells #[.string ⟨#[]⟩, .string ⟨#[]⟩, .string r2] 9)) (size := 3) (t := 42) (extV (xs, xo, xn)) (by decide) rfl
                    rw [World.size_alloc] at h
                    exact h
                  have hb9 : Below (w7.alloc (.cells #[.string ⟨#[]⟩, .string ⟨#[]⟩, .string r2] 9)).heap.size (w7.alloc (.cells #[.string ⟨#[]⟩, .string ⟨#[]⟩, .string r2] 9)) ((w7.alloc (.cells #[.string ⟨#[]⟩, .string ⟨#[]⟩, .string r2] 9)).alloc (.cells #[.int .i64 xs, .int .i64 xo, .int .i64 xn] 42)) := (Below.refl _ _).alloc (Nat.le_refl _) _
                  have HB9 := Keep.mk (HB8.out.trans (hb9.mono HB8.out.size))
                  have hcat : catE [⟨#[]⟩, ⟨#[]⟩, r2] [(xs, xo, xn)] = t.data.toList := by rw [catE_one]; exact HVA.out
                  have HGET := get_any (hA1.out.below hb9 (Nat.le_refl _)) hA2 (fun e he => by rw [List.mem_singleton] at he; subst he; exact HOK.out) (by rw [hcat]; simp; omega)
                    (fun s hs => by
                      simp only [List.mem_cons, List.not_mem_nil, or_false] at hs
                      rcases hs with rfl | rfl | rfl
                      · exact Nat.zero_le _
                      · exact Nat.zero_le _
                      · omega)
                  rw [hcat, mkS_data] at HGET
                  have HG2 := Keep.mk HGET
                  clear HGET hA2 hb9 hcat hA1 HB8
                  generalize ((w7.alloc (.cells #[.string ⟨#[]⟩, .string ⟨#[]⟩, .string r2] 9)).alloc (.cells #[.int .i64 xs, .int .i64 xo, .int .i64 xn] 42)) = w9 at *
                  refine HG2.out.mono ?_
                  rintro e w10 ⟨rfl, hb10⟩
                  have HB10 := Keep.mk (HB9.out.trans (hb10.mono HB9.out.size))
                  have HQ10 := Keep.mk (HQ7.out.trans (HB10.out.mono HQ7.out.size))
                  have HA10 := Keep.mk (HB7.out.below HB10.out HB7.out.lt)
                  have HS10 : Keep (SetIs w10 M D) := ⟨MapIs.below HS.out HQ10.out hMl⟩
                  clear hb10 HB9 HG2 HB7 HQ7 HB10 b0 b1 b2 b3 bl g2 gl7
                  go_upto_region 23 with (fail)
                  have hdt : decide (t ∈ D) = true := decide_eq_true HTD.out
                  have HSS : Keep (∀ w', Below w10.heap.size w10 w' → (w'.cell? ⟨B, 0, none⟩ = some (.string d) ∧ (Instr.lookup 51 (.map (some M)) (.string t) false).run Try.prog w' = .ok (.bool true) w') ∧ Below w10.heap.size w10 w') := ⟨fun w' hb => by
                    have h1 := (HA10.out.below hb HA10.out.lt).cell 0
                    have h2 := SetIs.look (MapIs.below HS10.out hb (MapIs.lt HS10.out)) t
                    rw [hdt] at h2
                    exact ⟨⟨h1, h2⟩, hb⟩⟩
                  have HSUM : Keep (∀ wx : World, Calls Try.prog 24 #[.slice (some ⟨wx.heap.size, 0, none⟩) 1 1] (wx.alloc (.cells #[.string t] 9)) fun e w' => e = .returned (.string d) ∧ Below (wx.alloc (.cells #[.string t] 9)).heap.size (wx.alloc (.cells #[.string t] 9)) w') := ⟨fun wx => by
                    have h := sum_any (l := [t]) (Strs.made wx [t] 9 (show (1 : Nat) ≤ maxLen by decide)) (show (1 : Nat) ≤ 1000000 by decide) (by simp [cat]; omega)
                    have e1 : mkS (B2.digest (cat [t])) = d := by rw [← HDI.out]; simp [cat, dig]
                    rw [e1] at h
                    exact h⟩
                  have HSUMd : Keep (∀ wx : World, Calls Try.prog 24 #[.slice (some ⟨wx.heap.size, 0, none⟩) 1 1] (wx.alloc (.cells #[.string t] 9)).drew fun e w' => e = .returned (.string d) ∧ Below (wx.alloc (.cells #[.string t] 9)).drew.heap.size (wx.alloc (.cells #[.string t] 9)).drew w') := ⟨fun wx => HSUM.out wx.drew⟩
                  have hq1 : (d.toList == d.toList) = true := by simp
                  have hq2 : (d.toList != d.toList) = false := by simp
                  have hBl : B < w10.heap.size := HA10.out.lt
                  clear hdt
                  go_region_held3 (fun w' => (w'.cell? ⟨B, 0, none⟩ = some (.string d) ∧ (Instr.lookup 51 (.map (some M)) (.string t) false).run Try.prog w' = .ok (.bool true) w') ∧ Below w10.heap.size w10 w')
                    (first | with_reducible exact HSS.out _ (Below.refl w10.heap.size w10).drew | with_reducible exact HSS.out _ (Below.refl w10.heap.size w10) | with_reducible exact HSS.out _ (low_alloc (And.right (by assumption)) _) | with_reducible exact HSS.out _ (low_allocd (And.right (by assumption)) _) | with_reducible exact HSS.out _ (low_on hb4 (And.right (by assumption))) | with_reducible assumption)
                    ((go_at_call 24; (first | (with_reducible refine (HSUM.out _).mono ?_) | (with_reducible refine (HSUMd.out _).mono ?_)); rintro e w4 ⟨rfl, hb4⟩))
                  have HE4 := Keep.mk (HQ10.out.trans (Below.mono (And.right (by assumption)) HQ10.out.size))
                  go_wp2
                  go_roundw
                  case rel => exact ⟨k + 1, by omega, by go_num, HE4⟩
                  case measure => simp [intOf]; omega
                · have HSr : Keep (SetIs wr M D) := ⟨MapIs.below HS.out HQ.out hMl⟩
                  have HGf := HGr.out.below HQ.out HGr.out.lt
                  have BWf := Keep.mk (HBr.out.trans (HQ.out.mono HBr.out.size))
                  obtain ⟨he1, he2⟩ := HCE.out
                  have hlen := SetIs.len HSr.out
                  have g0 := HGf.cell 0
                  have g2 := HGf.cell 2
                  have gl := HGf.lt
                  simp only [storeCells, List.getElem?_cons_zero, List.getElem?_cons_succ] at g0 g2
                  have hq1 : ((r1.length : Int) == (D.length : Int)) = true := by rw [he1]; simp
                  have hq2 : (r2.toList == (joinS D).toList) = true := by rw [he2]; simp
                  clear he1 he2 HGf
                  go_wp2_with fail
                  refine (awake_any _).mono ?_
                  rintro e7 w7 ⟨rfl, hb7⟩
                  have HB7 := Keep.mk (BWf.out.trans (hb7.mono BWf.out.size))
                  clear hb7 g0 g2 gl hlen
                  go_wp2
                  go_ret
                  exact ⟨rfl, HB7.out⟩

theorem ChunkstoreChunks_walk : LawWalk 7 Try.f7 := by
  intro H enc W base args ds ps hval hA _
  rw [Try.params7] at hA hval
  obtain ⟨v0, vs0, d0, ds0, p0, q0, hargs, rfl, rfl, h0, r0⟩ := trodAll_cons hA
  obtain ⟨rfl, rfl, rfl⟩ := trodAll_nil r0
  obtain rfl : args = #[v0] := by cases args; simp_all
  obtain ⟨s, rfl, rfl, rfl, hs⟩ := open_string Try.underlying9 (hval 0 9 v0 rfl rfl) h0
  exact chunksLaw_any s W hs
end Go.Proofs.Ytomlknjpaielgaa
namespace Go.Proofs.Ytomlknjpaielgaa
open Go.ChangeShapes Go.WideShapes Go.ChangeAt Go.RowKit
set_option maxRecDepth 100000 in
theorem ChunkstoreChunks_lifted (os : Os) (started : os.Started) (H : Type) (enc : TypeId × Value → H) :
    ReturnsInHanded {} Try.checked os 7 .any (Rows.chunkstoreChunksSpec.pre6 enc Try.prog Try.f7 Rows.chunkstoreChunksRow.domain false) (Rows.chunkstoreChunksSpec.post enc Try.prog Try.f7 false true false false) := by
  refine returnsInHanded_of_change_sized (C := Try.checked) own started (by kernel_rfl) Try.func7
    (ChangeSpec.witness6 (enc := enc) (C := Try.checked) false ⟨#[], #[.string ⟨#[]⟩], []⟩ 8 (by kernel_rfl) (by kernel_rfl) (by kernel_rfl) (by kernel_rfl)) ?_
  exact law_contract (by kernel_rfl) (by kernel_rfl) ⟨rfl, fun H ds h => by rw [Try.params7] at h; match ds, h with | [d0], _ => rfl⟩ ChunkstoreChunks_walk
theorem ChunkstoreChunks_over : Rows.chunkstoreChunksRow.holds Try.pinned (OpenSpec.ofChange Rows.chunkstoreChunksSpec) :=
  OpenClaim.holds_of_wide 7 Try.f7 rfl rfl rfl rfl rfl rfl rfl ⟨rfl, rfl, rfl, rfl, rfl⟩ rfl rfl rfl rfl rfl (by kernel_rfl) Try.func7 (by kernel_rfl)
    (of_decide_eq_true (by kernel_rfl)) (by unfold Func.isWrapper; first | (rw [if_pos (by decide +kernel)]; kernel_rfl) | (rw [if_neg (by decide +kernel)]; exact ⟨rfl, rfl⟩))
    (fun os started H enc _ => ChunkstoreChunks_lifted os started H enc)
theorem ChunkstoreChunks_proved : Rows.ChunkstoreChunksSaid := ChunkstoreChunks_over
end Go.Proofs.Ytomlknjpaielgaa
