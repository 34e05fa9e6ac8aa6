/- The law ChunkstoreDeduplicates. No condition. -/
import Derived.Test.YtomlknjpaielgaaStored
import Derived.Test.YtomlknjpaielgaaDedupMath
import Derived.Test.YtomlknjpaielgaaStoreAwake
import Derived.Test.YtomlknjpaielgaaOpenStrs
namespace Go.Proofs.Ytomlknjpaielgaa
set_option maxRecDepth 100000
open Go.RowKit Go.Shelf Go.Proofs.Ytomlknjpaielgaa.Store Go.ChangeShapes Go.WideShapes Go.ChangeAt
open Go.ChangeMaps (open_string shut_string)

/-- What stands behind storing a content again. -/
def AgainDone (wo : World) (S : SSt) (e : List Ext) (v11 v12 v13 : Value) (wx : World) : Prop :=
  ∃ G c5 n5 d5 a6 d6, v11 = .pointer (some ⟨G, 0, none⟩) ∧ v12 = .slice a6 e.length d6 ∧ v13 = .int .i64 0 ∧ Below wo.heap.size wo wx ∧ Arr wx G 27 (storeCells (.slice c5 n5 d5) S.ses S.st) ∧ Chks wx (.slice c5 n5 d5) S.cs ∧ Exts wx (.slice a6 e.length d6) e

set_option maxHeartbeats 8000000 in
theorem dedup_any {w : World} {v : Value} {l : List ByteArray} {at0 : Nat} (ha : at0 < 256) (hS : Strs w v l) :
    Calls Try.prog 4 #[v, .int .u8 at0] w fun e w' => e = .returned (.bool true) ∧ Below w.heap.size w w' := by
  obtain ⟨a, cap, rfl, h1, h2, h3⟩ := hS.at
  have HS := Keep.mk hS
  have H3 := Keep.mk h3
  clear hS h3
  unfold maxLen at h2
  go_enter Try.func4, Try.ntmps4
  go_wp2_with fail
  refine (few_any HS.out).mono ?_
  rintro e w' ⟨⟨fb, rfl, hfew⟩, hw'⟩
  obtain rfl : w = w' := hw'
  cases fb with
  | false =>
    clear hfew
    go_wp2_with fail
    refine (awake_any w).mono ?_
    rintro e w1 ⟨rfl, hb1⟩
    go_wp2_with fail
    go_ret
    exact ⟨rfl, hb1⟩
  | true =>
    obtain ⟨hsz, htot⟩ := hfew rfl
    have HZ := Keep.mk hsz
    clear hfew hsz
    obtain ⟨f, hf⟩ : ∃ f, f = at0 % (l.length + 1) := ⟨_, rfl⟩
    have hmod : (at0 : Int) % ((l.length : Int) + 1) = (f : Int) := by rw [hf]; simp
    have n0 : (0 : Int) ≤ (at0 : Int) := by omega
    have n1 : (at0 : Int) < 256 := by omega
    clear hf
    go_wp2_with fail
    refine (stored_any (f := f) HS.out HZ.out htot).mono ?_
    rintro e w2 ⟨cv, sv, xv, us, rfl, hcv, hsv, hxv, hex, hb2⟩
    clear hmod
    have hAg := Keep.mk (fun k (hk : k < l.length) => stored_again f l hk)
    have hfit := Keep.mk (storedK_fit (f := f) (l := l) (N := 600) (by omega) l.length (Nat.le_refl _))
    have hul := hex.1
    rw [storedK_exts] at hul
    have hses : (storedK f l l.length).ses = 1 ∨ (storedK f l l.length).ses = 2 := by rw [storedK_ses]; split <;> simp
    have HSES := Keep.mk hses
    clear hses
    generalize storedK f l l.length = S at *
    obtain ⟨ca, cc, rfl⟩ := ownsRow_slice hcv
    obtain ⟨sa, sc, rfl⟩ := ownsRow_slice hsv
    obtain ⟨xa, xc, rfl⟩ := ownsRow_slice hxv
    rw [hul] at hxv ⊢
    have HCV := Keep.mk hcv
    have HXV := Keep.mk hxv
    have HEX := Keep.mk hex
    have B2 := Keep.mk hb2
    clear hcv hsv hxv hex hb2
    go_upto_region 5 with (fail)
    obtain ⟨wo, hwo⟩ : ∃ wo, wo = w2.alloc (.cells #[.slice ca S.cs.length cc, .int .i64 S.ses, .string S.st] 27) := ⟨_, rfl⟩
    have AE : Keep (Arr wo w2.heap.size 27 (storeCells (.slice ca S.cs.length cc) S.ses S.st)) := ⟨by rw [hwo]; exact Arr.new w2 _ _⟩
    have CE : Keep (Chks wo (.slice ca S.cs.length cc) S.cs) := ⟨by rw [hwo]; exact Slc.of_owns (World.ownsRow.alloc HCV.out _)⟩
    have XE : Keep (Slc wo 1 (.slice xa l.length xc) l.length us) := ⟨by rw [hwo]; exact Slc.of_owns (World.ownsRow.alloc HXV.out _)⟩
    have EE : Keep (ExtRows w.heap.size wo us S.exts) := ⟨by rw [hwo]; exact HEX.out.below ((Below.refl _ _).alloc (Nat.le_refl _) _)⟩
    have BE : Keep (Below w.heap.size w wo) := ⟨by rw [hwo]; exact B2.out.alloc B2.out.size _⟩
    rw [← hwo]
    clear hwo HCV HXV HEX B2
    generalize w2.heap.size = E at *
    have hll : ((l.length : Int) != (l.length : Int)) = false := by simp
    go_wp2_with fail
    go_loopw [43] (fun i wr => ∃ k : Nat, k ≤ l.length ∧ i = .int .i64 k ∧ Below wo.heap.size wo wr) (fun i _ => l.length - (intOf i).toNat)
    case atStart => exact ⟨0, Nat.zero_le _, rfl, Below.refl _ _⟩
    case round =>
      obtain ⟨k, hk, rfl, hbr⟩ := hrel
      clear hll
      by_cases hlt : k < l.length
      · have k0 : (0 : Int) ≤ k := by omega
        have k1 : (k : Int) < l.length := by omega
        obtain ⟨e, he1, he2⟩ := hAg.out k hlt
        have hx : l.getD k ⟨#[]⟩ ∈ l := by rw [List.getD_eq_getElem?_getD, List.getElem?_eq_getElem hlt]; exact List.getElem_mem hlt
        have hgx : l[k]? = some (l.getD k ⟨#[]⟩) := by rw [List.getD_eq_getElem?_getD, List.getElem?_eq_getElem hlt]; rfl
        have hxz := HZ.out _ hx
        obtain ⟨b, o, rfl, hbw, hcx⟩ := H3.out k _ hgx
        generalize l.getD k ⟨#[]⟩ = x at *
        generalize hwr : wr = w5 at *
        clear hwr
        have hcx' := ((BE.out.trans (hbr.mono BE.out.size)).cell (p := ⟨b, o + k, none⟩) hbw).trans hcx
        have hqf : Keep (Fit x.size (S.cs, S.st, [])) := ⟨hfit.out.less (by rw [List.drop_length]; show x.size ≤ 0 + 600; omega)⟩
        have AE5 := Keep.mk (AE.out.below hbr AE.out.lt)
        have CE5 := Keep.mk (CE.out.below hbr (Nat.le_refl _))
        have HBR := Keep.mk hbr
        have c0 := AE5.out.cell 0
        have c1 := AE5.out.cell 1
        have c2 := AE5.out.cell 2
        simp only [storeCells, List.getElem?_cons_zero, List.getElem?_cons_succ] at c0 c1 c2
        have l1 := AE5.out.lt
        have l2 : b < w5.heap.size := Nat.lt_of_lt_of_le hbw (BE.out.trans (hbr.mono BE.out.size)).size
        have HE1 := Keep.mk he1
        have HE2 := Keep.mk he2
        clear he1 he2 hx hgx hcx hbr
        go_upto_region 10 with (fail)
        go_cut [11, 12, 13] from 46 to 55 (fun v11 v12 v13 wx => AgainDone w5 S e v11 v12 v13 wx)
        case first =>
          have hq1 : 1 ≤ S.ses := by have := HSES.out; omega
          have hq2 : S.ses ≤ 255 := by have := HSES.out; omega
          have HP := fun (wx : World) (h : Below w5.heap.size w5 wx) => put_more (put_any (content := x) (ses := S.ses) (st := S.st) (CE5.out.below h (Nat.le_refl _)) hq1 hq2 (by omega) hqf.out) h.size
          rw [HE2.out] at HP
          have HFin : Keep (∀ (wx : World) (G : Nat) (c5 : Option Addr) (n5 d5 : Nat) (a6 : Option Addr) (m6 d6 : Nat), Below w5.heap.size w5 wx → Arr wx G 27 (storeCells (.slice c5 n5 d5) S.ses S.st) → OwnChks w5.heap.size wx (.slice c5 n5 d5) S.cs → OwnExts w5.heap.size wx (.slice a6 m6 d6) e →
              AgainDone w5 S e (.pointer (some ⟨G, 0, none⟩)) (.slice a6 m6 d6) (.int .i64 0) wx) := ⟨fun wx G c5 n5 d5 a6 m6 d6 hb hA hc he => by
            obtain ⟨a', d', hv, _⟩ := he.exts.parts
            simp only [Value.slice.injEq] at hv
            obtain ⟨rfl, rfl, rfl⟩ := hv
            exact ⟨G, c5, n5, d5, a6, d6, rfl, rfl, rfl, hb, hA, hc.chks, he.exts⟩⟩
          clear hqf hAg hfit AE CE XE EE BE AE5 CE5 HBR HE1 HE2
          go_region_held3 (fun w' => ((w'.cell? ⟨E, 0, none⟩ = some (.slice ca S.cs.length cc) ∧ w'.cell? ⟨E, 1, none⟩ = some (.int .i64 S.ses) ∧ w'.cell? ⟨E, 2, none⟩ = some (.string S.st)) ∧ w'.cell? ⟨b, o + k, none⟩ = some (.string x)) ∧ Below w5.heap.size w5 w')
            (first | with_reducible exact held4_start ⟨⟨⟨c0, c1, c2⟩, hcx'⟩, Below.refl w5.heap.size w5⟩ | with_reducible exact held4_set l1 l1 l1 l2 (by assumption) | with_reducible exact held4 l1 l1 l1 l2 hb4 (by assumption) | with_reducible exact held4_alloc l1 l1 l1 l2 (by assumption) | with_reducible exact held4_allocd l1 l1 l1 l2 (by assumption) | with_reducible exact held4_re l1 l1 l1 l2 hz4 (by assumption) | with_reducible assumption)
            ((go_at_call 13; (with_reducible refine (HP _ ?_).mono ?_); (exact And.right (by assumption)); rintro e w4 ⟨a4, n4, c4, e4, m4, d4, rfl, hcv, hev, hb4, hz4⟩; (first | (have hg4 := zero_store hb4; have g40 := hg4.cell 0; have g41 := hg4.cell 1; have g42 := hg4.cell 2; have f40 := hg4.frozen 0; have f41 := hg4.frozen 1; have f42 := hg4.frozen 2; simp only [storeCells, List.getElem?_cons_zero, List.getElem?_cons_succ] at g40 g41 g42; have hlt4 := hg4.lt) | skip)))
          · go_wp2
            go_meet
            exact HFin.out _ _ _ _ _ _ _ _ (And.right (by assumption)) (Arr.new w4 _ (storeCells (.slice a4 n4 c4) S.ses S.st)) (World.ownsRow.alloc hcv _) (World.ownsRow.alloc hev _)
          · go_wp2
            go_meet
            have hfl := store_filled (a := .slice a4 n4 c4) (b := S.ses) (c := S.st) hg4
            exact HFin.out _ _ _ _ _ _ _ _ (And.right (by assumption)) hfl.1 (hfl.2.row (ownsRow_base hcv (by show w5.heap.size ≤ (w5.alloc _).heap.size; simp)) (by decide)) (hfl.2.row (ownsRow_base hev (by show w5.heap.size ≤ (w5.alloc _).heap.size; simp)) (by decide))
        case rest =>
        obtain ⟨G, c5, n5, d5, a6, d6, rfl, rfl, rfl, hb6, hG6, hC6, hX6⟩ := hcut
        obtain ⟨xa', xc', hvx, _, hxm, _, hxp⟩ := XE.out
        simp only [Value.slice.injEq, true_and] at hvx
        obtain ⟨rfl, rfl⟩ := hvx
        obtain ⟨xb, xo, rfl, hxb, hxc⟩ : ∃ xb xo, xa = some ⟨xb, xo, none⟩ ∧ xb < wo.heap.size ∧ ∀ j u, us[j]? = some u → wo.cell? ⟨xb, xo + j, none⟩ = some u := by
          rcases hxp with h | ⟨xb, xo, h1, h2, h3⟩
          · omega
          · exact ⟨xb, xo, h1, h2, h3⟩
        obtain ⟨u, hu1, hu2⟩ := EE.out.2 k e HE1.out
        have hcu := hxc k u hu1
        unfold maxLen at hxm
        have B56 := HBR.out.trans (hb6.mono HBR.out.size)
        have g0 := hG6.cell 0
        have g1 := hG6.cell 1
        have g2 := hG6.cell 2
        have a0 := (AE.out.below B56 AE.out.lt).cell 0
        have a1 := (AE.out.below B56 AE.out.lt).cell 1
        have a2 := (AE.out.below B56 AE.out.lt).cell 2
        simp only [storeCells, List.getElem?_cons_zero, List.getElem?_cons_succ] at g0 g1 g2 a0 a1 a2
        have HC1 := Keep.mk (CE.out.below B56 (Nat.le_refl _))
        have HC2 := Keep.mk hC6
        have HX6 := Keep.mk hX6
        have HU := Keep.mk (And.intro hu1 hu2)
        have HCU := Keep.mk hcu
        have HB6 := Keep.mk B56
        clear c0 c1 c2 l1 l2 hcx' hqf hb6 hG6 hC6 hX6 hxp hxc hu1 hu2 hcu B56
        go_wp2_with fail
        refine (sameStore_any HC1.out HC2.out).mono ?_
        rintro e7 w7 ⟨rfl, hb7⟩
        have B7 := HB6.out.trans (hb7.mono HB6.out.size)
        have hcu7 := (B7.cell (p := ⟨xb, xo + k, none⟩) hxb).trans HCU.out
        have HX7 := Keep.mk (HX6.out.below hb7 (Nat.le_refl _))
        have HU7 := Keep.mk ((Slc.of_owns HU.out.2 : Exts wo u e).below B7 (Nat.le_refl _))
        have HB7 := Keep.mk B7
        clear a0 a1 a2 g0 g1 g2 hb7 B7 HX6 HC1 HC2 HU
        go_wp2_with fail
        refine (sameExts_any _ _ e e _ HX7.out HU7.out).mono ?_
        rintro e8 w8 ⟨rfl, hb8⟩
        rw [decide_eq_true rfl]
        have HB8 := Keep.mk (HB7.out.trans (hb8.mono HB7.out.size))
        clear hcu7 hb8 HB7
        go_wp2
        go_roundw
        case rel => exact ⟨k + 1, by omega, by go_num, HB8.out⟩
        case measure => simp [intOf]; omega
      · have HBF := Keep.mk (BE.out.trans (hbr.mono BE.out.size))
        go_wp2_with fail
        refine (awake_any _).mono ?_
        rintro e7 w7 ⟨rfl, hb7⟩
        have HB7 := Keep.mk (HBF.out.trans (hb7.mono HBF.out.size))
        clear hb7
        go_wp2
        go_ret
        exact ⟨rfl, HB7.out⟩

theorem ChunkstoreDeduplicates_walk : LawWalk 4 Try.f4 := by
  intro H enc W base args ds ps hval hA hsz
  rw [Try.params4] at hA hval hsz
  obtain ⟨v0, vs0, d0, ds0, p0, q0, hargs, rfl, rfl, h0, r0⟩ := trodAll_cons hA
  obtain ⟨v1, vs1, d1, ds1, p1, q1, rfl, rfl, rfl, h1, r1⟩ := trodAll_cons r0
  obtain ⟨rfl, rfl, rfl⟩ := trodAll_nil r1
  obtain rfl : args = #[v0, v1] := by cases args; simp_all
  obtain ⟨l, k1, _⟩ := open_strs0 (hval 0 22 v0 rfl rfl) h0 (sized_each hsz (j := 0) rfl rfl)
  obtain ⟨n, rfl, rfl, rfl, wn⟩ := open_int Try.underlying5 (hval 1 5 v1 rfl rfl) h1
  have hn : 0 ≤ n ∧ n < 256 := by
    simp only [Lit.wf, IntKind.min, IntKind.max, IntKind.signed, IntKind.bits] at wn
    simp at wn
    omega
  obtain ⟨c, rfl⟩ := Int.eq_ofNat_of_zero_le hn.1
  exact dedup_any (by omega) k1
end Go.Proofs.Ytomlknjpaielgaa
namespace Go.Proofs.Ytomlknjpaielgaa
open Go.ChangeShapes Go.WideShapes Go.ChangeAt Go.RowKit
set_option maxRecDepth 100000 in
theorem ChunkstoreDeduplicates_lifted (os : Os) (started : os.Started) (H : Type) (enc : TypeId × Value → H) :
    ReturnsInHanded {} Try.checked os 4 .any (Rows.chunkstoreDeduplicatesSpec.pre6 enc Try.prog Try.f4 Rows.chunkstoreDeduplicatesRow.domain false) (Rows.chunkstoreDeduplicatesSpec.post enc Try.prog Try.f4 false true false false) := by
  refine returnsInHanded_of_change_sized (C := Try.checked) own started (by kernel_rfl) Try.func4
    (ChangeSpec.witness6 (enc := enc) (C := Try.checked) false ⟨#[], #[.slice none 0 0, .int .u8 0], []⟩ 8 (by kernel_rfl) (by kernel_rfl) (by kernel_rfl) (by kernel_rfl)) ?_
  exact law_contract (by kernel_rfl) (by kernel_rfl) ⟨rfl, fun H ds h => by rw [Try.params4] at h; match ds, h with | [d0, d1], _ => rfl⟩ ChunkstoreDeduplicates_walk
theorem ChunkstoreDeduplicates_over : Rows.chunkstoreDeduplicatesRow.holds Try.pinned (OpenSpec.ofChange Rows.chunkstoreDeduplicatesSpec) :=
  OpenClaim.holds_of_wide 4 Try.f4 rfl rfl rfl rfl rfl rfl rfl ⟨rfl, rfl, rfl, rfl, rfl⟩ rfl rfl rfl rfl rfl (by kernel_rfl) Try.func4 (by kernel_rfl)
    (of_decide_eq_true (by kernel_rfl)) (by unfold Func.isWrapper; first | (rw [if_pos (by decide +kernel)]; kernel_rfl) | (rw [if_neg (by decide +kernel)]; exact ⟨rfl, rfl⟩))
    (fun os started H enc _ => ChunkstoreDeduplicates_lifted os started H enc)
theorem ChunkstoreDeduplicates_proved : Rows.ChunkstoreDeduplicatesSaid := ChunkstoreDeduplicates_over
end Go.Proofs.Ytomlknjpaielgaa
