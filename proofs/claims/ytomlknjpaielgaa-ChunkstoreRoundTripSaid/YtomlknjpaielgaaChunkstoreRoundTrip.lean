/- The law ChunkstoreRoundTrip. No condition. -/
import Derived.Test.YtomlknjpaielgaaGet
import Derived.Test.YtomlknjpaielgaaCollides
import Derived.Test.YtomlknjpaielgaaStoreAwake
import Derived.Test.YtomlknjpaielgaaOpenStrs
namespace Go.Proofs.Ytomlknjpaielgaa
set_option maxRecDepth 100000
open Go.RowKit Go.Shelf Go.Proofs.Ytomlknjpaielgaa.Store Go.ChangeShapes Go.WideShapes Go.ChangeAt
open Go.ChangeMaps (open_string shut_string)

theorem storedK_small {f : Nat} {l : List ByteArray} (hN : bytesS l ≤ 1000000) : ∀ k, k ≤ l.length → ∀ s ∈ (storedK f l k).streams ++ [(storedK f l k).st], s.size ≤ 1000000
  | 0, _ => by simp [storedK, SSt.zero]; exact Nat.zero_le _
  | k + 1, hk => by
    have ih := storedK_small (f := f) hN k (by omega)
    have hf := (storedK_fit (f := f) (l := l) (N := 0) (by omega) (k + 1) hk).stream
    intro s hs
    rw [List.mem_append, List.mem_singleton] at hs
    rcases hs with hs | rfl
    · rw [storedK] at hs
      change s ∈ (if k = f then (storedK f l k).turn else storedK f l k).streams at hs
      split at hs
      · exact ih s hs
      · exact ih s (List.mem_append_left _ hs)
    · simp only at hf
      omega

set_option maxHeartbeats 8000000 in
theorem roundTrip_any {w : World} {v : Value} {l : List ByteArray} {at0 : Nat} (ha : at0 < 256) (hS : Strs w v l) :
    Calls Try.prog 8 #[v, .int .u8 at0] w fun e w' => e = .returned (.bool true) ∧ Below w.heap.size w w' := by
  obtain ⟨a, cap, rfl, h1, h2, h3⟩ := hS.at
  have HS := Keep.mk hS
  have H3 := Keep.mk h3
  clear hS h3
  unfold maxLen at h2
  go_enter Try.func8, Try.ntmps8
  go_wp2_with fail
  refine (few_any HS.out).mono ?_
  rintro e w' ⟨⟨fb, rfl, hfew⟩, hw'⟩
  obtain rfl : w = w' := hw'
  cases fb with
  | false =>
    clear hfew
    go_wp2_with fail
    refine (awake_any w).mono ?_
    rintro e w1 ⟨rfl, hb1⟩
    go_wp2_with fail
    go_ret
    exact ⟨rfl, hb1⟩
  | true =>
    obtain ⟨hsz, htot⟩ := hfew rfl
    have HZ := Keep.mk hsz
    clear hfew hsz
    go_wp2_with fail
    refine (collides_any HS.out (by omega)).mono ?_
    rintro e w1 ⟨⟨cb, rfl, hcol⟩, hb1⟩
    have B1 := Keep.mk hb1
    have HCOL := Keep.mk hcol
    clear hb1 hcol
    cases cb with
    | true =>
      go_wp2_with fail
      refine (awake_any w1).mono ?_
      rintro e w2 ⟨rfl, hb2⟩
      have B2 := Keep.mk (B1.out.trans (hb2.mono B1.out.size))
      clear hb2
      go_wp2_with fail
      go_ret
      exact ⟨rfl, B2.out⟩
    | false =>
      have hinj := HCOL.out rfl
      obtain ⟨f, hf⟩ : ∃ f, f = at0 % (l.length + 1) := ⟨_, rfl⟩
      have hmod : (at0 : Int) % ((l.length : Int) + 1) = (f : Int) := by rw [hf]; simp
      have n0 : (0 : Int) ≤ (at0 : Int) := by omega
      have n1 : (at0 : Int) < 256 := by omega
      have HRT := Keep.mk (storedK_round (f := f) (l := l) hinj (fun c hc x hx => List.mem_flatMap.2 ⟨c, hc, hx⟩) l.length (Nat.le_refl _)).2
      have HSM := Keep.mk (storedK_small (f := f) (l := l) (by omega) l.length (Nat.le_refl _))
      have HS1 := Keep.mk (HS.out.below B1.out (Nat.le_refl _))
      clear hf hinj HCOL
      go_wp2_with fail
      refine (stored_any (f := f) HS1.out HZ.out htot).mono ?_
      rintro e w2 ⟨cv, sv, xv, us, rfl, hcv, hsv, hxv, hex, hb2⟩
      clear hmod
      have hul := hex.1
      rw [storedK_exts] at hul
      generalize storedK f l l.length = S at *
      obtain ⟨ca, cc, rfl⟩ := ownsRow_slice hcv
      obtain ⟨sa, sc, rfl⟩ := ownsRow_slice hsv
      obtain ⟨xa, xc, rfl⟩ := ownsRow_slice hxv
      rw [hul] at hxv ⊢
      generalize S.streams ++ [S.st] = A at *
      have SE : Keep (Strs w2 (.slice sa A.length sc) A) := ⟨OwnStrs.strs hsv⟩
      have XE : Keep (Slc w2 1 (.slice xa l.length xc) l.length us) := ⟨Slc.of_owns hxv⟩
      have EE := Keep.mk hex
      have BE := Keep.mk (B1.out.trans (hb2.mono B1.out.size))
      clear hcv hsv hxv hex hb2 B1 HS1
      have hll : ((l.length : Int) != (l.length : Int)) = false := by simp
      go_upto_region 4 with (fail)
      obtain ⟨wo, hwo⟩ : ∃ wo, wo = w2.alloc (.cells #[.slice ca S.cs.length cc, .int .i64 S.ses, .string S.st] 27) := ⟨_, rfl⟩
      have hbo : Below w2.heap.size w2 (w2.alloc (.cells #[.slice ca S.cs.length cc, .int .i64 S.ses, .string S.st] 27)) := (Below.refl _ _).alloc (Nat.le_refl _) _
      rw [← hwo] at hbo ⊢
      have SO := Keep.mk (SE.out.below hbo (Nat.le_refl _))
      have XO := Keep.mk (XE.out.below hbo (Nat.le_refl _))
      have EO := Keep.mk (EE.out.below hbo)
      have BO := Keep.mk (BE.out.trans (hbo.mono BE.out.size))
      clear hwo hbo SE XE EE BE
      obtain ⟨xa', xc', hvx, _, hxm, _, hxp⟩ := XO.out
      simp only [Value.slice.injEq, true_and] at hvx
      obtain ⟨rfl, rfl⟩ := hvx
      have HXP := Keep.mk hxp
      unfold maxLen at hxm
      clear hxp
      go_wp2_with fail
      go_loopw [44] (fun i wr => ∃ k : Nat, k ≤ l.length ∧ i = .int .i64 k ∧ Keep (Below wo.heap.size wo wr)) (fun i _ => l.length - (intOf i).toNat)
      case atStart => exact ⟨0, Nat.zero_le _, rfl, ⟨Below.refl _ _⟩⟩
      case round =>
        obtain ⟨k, hk, rfl, HB⟩ := hrel
        clear hll
        by_cases hlt : k < l.length
        · have k0 : (0 : Int) ≤ k := by omega
          have k1 : (k : Int) < l.length := by omega
          obtain ⟨e, he1, he2, he3⟩ := HRT.out k hlt
          have hgx : l[k]? = some (l.getD k ⟨#[]⟩) := by rw [List.getD_eq_getElem?_getD, List.getElem?_eq_getElem hlt]; rfl
          have hxz := HZ.out _ (List.mem_of_getElem? hgx)
          obtain ⟨b, o, rfl, hbw, hcx⟩ := H3.out k _ hgx
          generalize l.getD k ⟨#[]⟩ = x at *
          obtain ⟨xb, xo, rfl, hxb, hxc⟩ : ∃ xb xo, xa = some ⟨xb, xo, none⟩ ∧ xb < wo.heap.size ∧ ∀ j u, us[j]? = some u → wo.cell? ⟨xb, xo + j, none⟩ = some u := by
            rcases HXP.out with h | ⟨xb, xo, h1, h2, h3⟩
            · omega
            · exact ⟨xb, xo, h1, h2, h3⟩
          obtain ⟨u, hu1, hu2⟩ := EO.out.2 k e he1
          have BW := Keep.mk (BO.out.trans (HB.out.mono BO.out.size))
          have hcu := (HB.out.cell (p := ⟨xb, xo + k, none⟩) hxb).trans (hxc k u hu1)
          have hcx' := (BW.out.cell (p := ⟨b, o + k, none⟩) hbw).trans hcx
          have hxl : xb < wr.heap.size := Nat.lt_of_lt_of_le hxb HB.out.size
          have hbl : b < wr.heap.size := Nat.lt_of_lt_of_le hbw BW.out.size
          have hctl : (catE A e).length ≤ 65536 := by rw [he3]; simp; omega
          have HG := Keep.mk (get_any (SO.out.below HB.out (Nat.le_refl _)) ((Slc.of_owns hu2 : Exts wo u e).below HB.out (Nat.le_refl _)) he2 hctl HSM.out)
          rw [he3, mkS_data] at HG
          have HCX := Keep.mk hcx
          clear he1 he2 he3 hgx hcx hxc hu1 hu2 hctl
          go_wp2_with fail
          refine HG.out.mono ?_
          rintro e w7 ⟨rfl, hb7⟩
          have HB7 := Keep.mk (HB.out.trans (hb7.mono HB.out.size))
          have BW7 := Keep.mk (BO.out.trans (HB7.out.mono BO.out.size))
          have hcx7 := (BW7.out.cell (p := ⟨b, o + k, none⟩) hbw).trans HCX.out
          have hbl7 : b < w7.heap.size := Nat.lt_of_lt_of_le hbw BW7.out.size
          have hq2 : (x.toList != x.toList) = false := by simp
          clear hcu hcx' hxl hbl hb7 HG BW HB
          go_wp2_with fail
          go_roundw
          case rel => exact ⟨k + 1, by omega, by go_num, HB7⟩
          case measure => simp [intOf]; omega
        · have BW := Keep.mk (BO.out.trans (HB.out.mono BO.out.size))
          go_wp2_with fail
          refine (awake_any _).mono ?_
          rintro e7 w7 ⟨rfl, hb7⟩
          have HB7 := Keep.mk (BW.out.trans (hb7.mono BW.out.size))
          clear hb7
          go_wp2
          go_ret
          exact ⟨rfl, HB7.out⟩

theorem ChunkstoreRoundTrip_walk : LawWalk 8 Try.f8 := by
  intro H enc W base args ds ps hval hA hsz
  rw [Try.params8] at hA hval hsz
  obtain ⟨v0, vs0, d0, ds0, p0, q0, hargs, rfl, rfl, h0, r0⟩ := trodAll_cons hA
  obtain ⟨v1, vs1, d1, ds1, p1, q1, rfl, rfl, rfl, h1, r1⟩ := trodAll_cons r0
  obtain ⟨rfl, rfl, rfl⟩ := trodAll_nil r1
  obtain rfl : args = #[v0, v1] := by cases args; simp_all
  obtain ⟨l, k1, _⟩ := open_strs0 (hval 0 22 v0 rfl rfl) h0 (sized_each hsz (j := 0) rfl rfl)
  obtain ⟨n, rfl, rfl, rfl, wn⟩ := open_int Try.underlying5 (hval 1 5 v1 rfl rfl) h1
  have hn : 0 ≤ n ∧ n < 256 := by
    simp only [Lit.wf, IntKind.min, IntKind.max, IntKind.signed, IntKind.bits] at wn
    simp at wn
    omega
  obtain ⟨c, rfl⟩ := Int.eq_ofNat_of_zero_le hn.1
  exact roundTrip_any (by omega) k1
end Go.Proofs.Ytomlknjpaielgaa
namespace Go.Proofs.Ytomlknjpaielgaa
open Go.ChangeShapes Go.WideShapes Go.ChangeAt Go.RowKit
set_option maxRecDepth 100000 in
theorem ChunkstoreRoundTrip_lifted (os : Os) (started : os.Started) (H : Type) (enc : TypeId × Value → H) :
    ReturnsInHanded {} Try.checked os 8 .any (Rows.chunkstoreRoundTripSpec.pre6 enc Try.prog Try.f8 Rows.chunkstoreRoundTripRow.domain false) (Rows.chunkstoreRoundTripSpec.post enc Try.prog Try.f8 false true false false) := by
  refine returnsInHanded_of_change_sized (C := Try.checked) own started (by kernel_rfl) Try.func8
    (ChangeSpec.witness6 (enc := enc) (C := Try.checked) false ⟨#[], #[.slice none 0 0, .int .u8 0], []⟩ 8 (by kernel_rfl) (by kernel_rfl) (by kernel_rfl) (by kernel_rfl)) ?_
  exact law_contract (by kernel_rfl) (by kernel_rfl) ⟨rfl, fun H ds h => by rw [Try.params8] at h; match ds, h with | [d0, d1], _ => rfl⟩ ChunkstoreRoundTrip_walk
theorem ChunkstoreRoundTrip_over : Rows.chunkstoreRoundTripRow.holds Try.pinned (OpenSpec.ofChange Rows.chunkstoreRoundTripSpec) :=
  OpenClaim.holds_of_wide 8 Try.f8 rfl rfl rfl rfl rfl rfl rfl ⟨rfl, rfl, rfl, rfl, rfl⟩ rfl rfl rfl rfl rfl (by kernel_rfl) Try.func8 (by kernel_rfl)
    (of_decide_eq_true (by kernel_rfl)) (by unfold Func.isWrapper; first | (rw [if_pos (by decide +kernel)]; kernel_rfl) | (rw [if_neg (by decide +kernel)]; exact ⟨rfl, rfl⟩))
    (fun os started H enc _ => ChunkstoreRoundTrip_lifted os started H enc)
theorem ChunkstoreRoundTrip_proved : Rows.ChunkstoreRoundTripSaid := ChunkstoreRoundTrip_over
end Go.Proofs.Ytomlknjpaielgaa
