/- The law ChunkstoreAppends. No condition. -/
import Derived.Test.YtomlknjpaielgaaStored
import Derived.Test.YtomlknjpaielgaaAppendMath
import Derived.Test.YtomlknjpaielgaaStoreAwake
import Derived.Test.YtomlknjpaielgaaOpenStrs
import Derived.Test.YtomlknjpaielgaaShelf
namespace Go.Proofs.Ytomlknjpaielgaa
set_option maxRecDepth 100000
open Go.RowKit Go.Shelf Go.Proofs.Ytomlknjpaielgaa.Store Go.ChangeShapes Go.WideShapes Go.ChangeAt
open Go.ChangeMaps (open_string shut_string)

theorem lens_take_le (l : List Chk) : ∀ k, ((l.take k).map fun c => c.2.2.2.toNat).sum ≤ (l.map fun c => c.2.2.2.toNat).sum := by
  induction l with
  | nil => intro k; simp
  | cons c l ih =>
    intro k
    cases k with
    | zero => simp
    | succ k => rw [List.take_succ_cons, List.map_cons, List.map_cons, List.sum_cons, List.sum_cons]; have := ih k; omega
def lens (l : List Chk) : Nat := (l.map fun c => c.2.2.2.toNat).sum
theorem bytesS_append (l m : List ByteArray) : bytesS (l ++ m) = bytesS l + bytesS m := by simp [bytesS]
theorem prefix_of {s t r : ByteArray} (h : r = s ++ t) : Lib.hasPrefix r.data.toList s.data.toList = true := by
  rw [h, Lib.hasPrefix, List.isPrefixOf_iff_prefix]
  simp

theorem wpList_append_wide {ops : Array Oper} {rest : List Oper} {o : Oper} {a : Act} {w : World} {Q : Exit → Act → World → Prop} (hgd : o.guard = none) (s x : Operand)
    (ho : o.op = .call { callee := .builtin .append, args := #[s, x], argTypes := #[22, 22] })
    {base : Nat} {v : Value} {l : List ByteArray} (hs : a.eval s = v) (hown : OwnStrs base w v l) {u : Value} {m : List ByteArray} (hx : a.eval x = u) (hu : Strs w u m)
    (hn : (l.length + m.length) * 16 ≤ 140737488355328) (hbase : base ≤ w.heap.size)
    (h : ∀ v' w', OwnStrs base w' v' (l ++ m) → Below base w w' → wpList Try.prog ops Q rest (a.put o.dst v') w') : wpList Try.prog ops Q (o :: rest) a w := by
  obtain ⟨i0, hi, hz0, hz1, hz2⟩ := info_parts Try.infoStrS
  refine wpList_append_slc hgd s x 22 ho base 9 i0 (.string ⟨#[]⟩) 1 16 Try.underlying22 hi hz0 hz1 hz2 rfl (by decide) v l.length (strCells l) hs hown u m.length (strCells m) hx hu.slc (by simp [strCells, Value.oneCell']) (by unfold maxLen; omega) hn hbase ?_
  intro v' w' hown' hg _
  refine h v' w' ?_ (below_append (Below.refl _ _) hbase hown (Nat.le_refl _) hg)
  unfold OwnStrs
  rw [List.length_append]
  simpa [strCells] using hown'

set_option maxHeartbeats 8000000 in
theorem appends_any {w : World} {v : Value} {l : List ByteArray} {at0 : Nat} {x : ByteArray} (ha : at0 < 256) (hx : x.size ≤ maxLen) (hw : l.length * 16 ≤ 140737488351232) (hS : Strs w v l) :
    Calls Try.prog 5 #[v, .int .u8 at0, .string x] w fun e w' => e = .returned (.bool true) ∧ Below w.heap.size w w' := by
  obtain ⟨a, cap, rfl, h1, h2, h3⟩ := hS.at
  have HS := Keep.mk hS
  clear hS h3
  unfold maxLen at h2 hx
  go_enter Try.func5, Try.ntmps5
  go_wp2_with (first
    | (at_builtin; refine wpList_append_wide (o := ⟨some 19, _, _, _, _, _⟩) rfl _ _ rfl (base := w.heap.size) rfl (OwnStrs.made (Nat.le_refl _) [] (by decide)) rfl (HS.out.below ((Below.refl w.heap.size w).alloc (Nat.le_refl _) _) (Nat.le_refl _)) (by simp; omega) (by simp) ?_; intro v8 w8 hO8 hB8; have B8 := Keep.mk (((Below.refl w.heap.size w).alloc (Nat.le_refl _) _).trans hB8); have hz8 := B8.out.size; clear hB8)
    | (at_builtin; refine wpList_append_wide (o := ⟨some 22, _, _, _, _, _⟩) rfl _ _ rfl (base := w.heap.size) rfl (hO8.alloc _) rfl (Strs.made _ [x] 9 (show (1 : Nat) ≤ maxLen by decide)) (by simp; omega) (by simp; omega) ?_; intro v9 w9 hO9 hB9; have H9 := Keep.mk (And.intro hO9.strs ((B8.out.alloc hz8 _).trans hB9)); clear hB9 hO9 hO8 B8 hz8))
  refine (few_any H9.out.1).mono ?_
  rintro e w' ⟨⟨fb, rfl, hfew⟩, hw'⟩
  obtain rfl : w9 = w' := hw'
  cases fb with
  | false =>
    clear hfew
    go_wp2_with fail
    refine (awake_any w9).mono ?_
    rintro e w1 ⟨rfl, hb1⟩
    have HB := Keep.mk (H9.out.2.trans (hb1.mono H9.out.2.size))
    clear hb1 H9
    go_wp2_with fail
    go_ret
    exact ⟨rfl, HB.out⟩
  | true =>
    obtain ⟨hsz, htot⟩ := hfew rfl
    rw [List.nil_append] at hsz htot
    rw [bytesS_append, List.length_append] at htot
    have hbx : bytesS [x] = x.size := by simp [bytesS]
    rw [hbx] at htot
    simp only [List.length_singleton] at htot
    have HZ := Keep.mk (fun s (hs : s ∈ l) => hsz s (List.mem_append_left _ hs))
    have hxs : x.size ≤ 600 := hsz x (List.mem_append_right _ (by simp))
    have B9 := Keep.mk H9.out.2
    have S9 := Keep.mk (HS.out.below H9.out.2 (Nat.le_refl _))
    clear hfew hsz hbx H9
    obtain ⟨f, hf⟩ : ∃ f, f = at0 % (l.length + 1) := ⟨_, rfl⟩
    have hmod : (at0 : Int) % ((l.length : Int) + 1) = (f : Int) := by rw [hf]; simp
    have n0 : (0 : Int) ≤ (at0 : Int) := by omega
    have n1 : (at0 : Int) < 256 := by omega
    clear hf
    go_wp2_with fail
    refine (stored_any (f := f) S9.out HZ.out (by omega)).mono ?_
    rintro e w2 ⟨cv, sv, xv, us, rfl, hcv, hsv, hxv, hex, hb2⟩
    clear hmod hex
    have hfit := storedK_fit (f := f) (l := l) (N := 600) (by omega) l.length (Nat.le_refl _)
    have hses : (storedK f l l.length).ses = 1 ∨ (storedK f l l.length).ses = 2 := by rw [storedK_ses]; split <;> simp
    generalize storedK f l l.length = S at *
    obtain ⟨ca, cc, rfl⟩ := ownsRow_slice hcv
    obtain ⟨sa, sc, rfl⟩ := ownsRow_slice hsv
    obtain ⟨xa, xc, rfl⟩ := ownsRow_slice hxv
    rw [List.drop_length] at hfit
    have HF := Keep.mk (hfit.less (m := x.size) (by show x.size ≤ 0 + 600; omega))
    have HCV := Keep.mk hcv
    have B2 := Keep.mk (B9.out.trans (hb2.mono B9.out.size))
    have hq1 : 1 ≤ S.ses := by omega
    have hq2 : S.ses ≤ 255 := by omega
    clear hcv hsv hxv hb2 hfit hses B9
    go_upto_region 4 with (fail)
    obtain ⟨wo, hwo⟩ : ∃ wo, wo = w2.alloc (.cells #[.slice ca S.cs.length cc, .int .i64 S.ses, .string S.st] 27) := ⟨_, rfl⟩
    have AE : Keep (Arr wo w2.heap.size 27 (storeCells (.slice ca S.cs.length cc) S.ses S.st)) := ⟨by rw [hwo]; exact Arr.new w2 _ _⟩
    have CE : Keep (Chks wo (.slice ca S.cs.length cc) S.cs) := ⟨by rw [hwo]; exact Slc.of_owns (World.ownsRow.alloc HCV.out _)⟩
    have BE : Keep (Below w.heap.size w wo) := ⟨by rw [hwo]; exact B2.out.alloc B2.out.size _⟩
    rw [← hwo]
    clear hwo HCV B2
    generalize w2.heap.size = E at *
    have c0 := AE.out.cell 0
    have c1 := AE.out.cell 1
    have c2 := AE.out.cell 2
    simp only [storeCells, List.getElem?_cons_zero, List.getElem?_cons_succ] at c0 c1 c2
    go_wp2_with fail
    refine (put_any (content := x) (ses := S.ses) (st := S.st) CE.out hq1 hq2 (by omega) HF.out).mono ?_
    rintro e w3 ⟨cv3, ev3, rfl, hcv, hev, hb3⟩
    have hgr := putAll_grown S.ses S.cs S.st x
    obtain ⟨c3, d3, rfl⟩ := ownsRow_slice hcv
    obtain ⟨e3, f3, rfl⟩ := ownsRow_slice hev
    have HRF := Keep.mk (fit_putAll (ses := S.ses) (k := 0) (by rw [Nat.zero_add]; exact HF.out)).stream
    generalize putAll S.ses S.cs S.st x = r at *
    obtain ⟨news, tl, hr1, hr2, hch⟩ := hgr
    simp only at hr1 hr2 hch
    have HPX := Keep.mk (prefix_of hr2)
    have HR1 := Keep.mk hr1
    have HCH := Keep.mk hch
    have HC3 := Keep.mk hcv
    have hb3' := Keep.mk hb3
    have hlen : r.1.length = S.cs.length + news.length := by rw [hr1, List.length_append]
    have HLEN := Keep.mk hlen
    clear hr1 hr2 hch hcv hev hb3 c0 c1 c2 hlen
    go_upto_region 5 with (fail)
    obtain ⟨wz, hwz⟩ : ∃ wz, wz = w3.alloc (.cells #[.slice c3 r.1.length d3, .int .i64 S.ses, .string r.2.1] 27) := ⟨_, rfl⟩
    have bz : Below w3.heap.size w3 wz := by rw [hwz]; exact (Below.refl _ _).alloc (Nat.le_refl _) _
    have AZ : Keep (Arr wz w3.heap.size 27 (storeCells (.slice c3 r.1.length d3) S.ses r.2.1)) := ⟨by rw [hwz]; exact Arr.new w3 _ _⟩
    have boz := hb3'.out.trans (bz.mono hb3'.out.size)
    have AEz := Keep.mk (AE.out.below boz AE.out.lt)
    have CEz := Keep.mk (CE.out.below boz (Nat.le_refl _))
    have CZ := Keep.mk (HC3.out.chks.below bz (Nat.le_refl _))
    have BZ := Keep.mk (BE.out.trans (boz.mono BE.out.size))
    rw [← hwz]
    clear hwz bz boz AE CE BE HC3 hb3'
    generalize w3.heap.size = E2 at *
    have a0 := AEz.out.cell 0
    have a1 := AEz.out.cell 1
    have a2 := AEz.out.cell 2
    have z0 := AZ.out.cell 0
    have z1 := AZ.out.cell 1
    have z2 := AZ.out.cell 2
    simp only [storeCells, List.getElem?_cons_zero, List.getElem?_cons_succ] at a0 a1 a2 z0 z1 z2
    have hss : (S.ses != S.ses) = false := by simp
    have hll : ¬ (r.1.length : Int) < (S.cs.length : Int) := by have := HLEN.out; omega
    go_wp2_with fail
    refine (Try.strings_HasPrefix r.2.1 S.st wz).mono ?_
    rintro e w4 ⟨rfl, hw4⟩
    obtain rfl : wz = w4 := hw4.symm
    rw [HPX.out]
    go_wp2_with fail
    have HSUM := Keep.mk HCH.out.sum
    clear a0 a1 a2 z0 z1 z2 hss hll HPX HF hq1 hq2
    go_loopw [82, 14] (fun i s14 wr => ∃ k : Nat, k ≤ r.1.length ∧ i = .int .i64 k ∧ s14 = .int .i64 ((S.st.size + lens (news.take (k - S.cs.length)) : Nat) : Int) ∧ Below wz.heap.size wz wr) (fun i _ _ => r.1.length - (intOf i).toNat)
    case atStart => exact ⟨0, Nat.zero_le _, rfl, by simp [lens], Below.refl _ _⟩
    case round =>
      obtain ⟨k, hk, rfl, rfl, hbr⟩ := hrel
      have HBW := Keep.mk hbr
      by_cases hlt : k < r.1.length
      · obtain ⟨c, hc⟩ : ∃ c, r.1[k]? = some c := ⟨_, List.getElem?_eq_getElem hlt⟩
        obtain ⟨za, zc, hvz, _, hzm, hzp⟩ := CZ.out.parts
        simp only [Value.slice.injEq, true_and] at hvz
        obtain ⟨rfl, rfl⟩ := hvz
        obtain ⟨zb, zo, rfl, hzb, x0, x1, x2, x3⟩ := hzp k c hc
        have x0' := (hbr.cell (p := ⟨zb, zo + k * 4, none⟩) hzb).trans x0
        have x1' := (hbr.cell (p := ⟨zb, zo + k * 4 + 1, none⟩) hzb).trans x1
        have x2' := (hbr.cell (p := ⟨zb, zo + k * 4 + 2, none⟩) hzb).trans x2
        have x3' := (hbr.cell (p := ⟨zb, zo + k * 4 + 3, none⟩) hzb).trans x3
        have hzl : zb < wr.heap.size := Nat.lt_of_lt_of_le hzb hbr.size
        have a0 := (AEz.out.below hbr AEz.out.lt).cell 0
        have a1 := (AEz.out.below hbr AEz.out.lt).cell 1
        have hEl := (AEz.out.below hbr AEz.out.lt).lt
        simp only [storeCells, List.getElem?_cons_zero, List.getElem?_cons_succ] at a0 a1
        unfold maxLen at hzm
        have hwz := hbr.size
        have k0 : (0 : Int) ≤ k := by omega
        have k1 : (k : Int) < r.1.length := by omega
        clear x0 x1 x2 x3 hzp hbr
        by_cases hold : k < S.cs.length
        · have hcs : S.cs[k]? = some c := by rw [HR1.out, List.getElem?_append_left hold] at hc; exact hc
          obtain ⟨ya, yc, hvy, _, hym, hyp⟩ := CEz.out.parts
          simp only [Value.slice.injEq, true_and] at hvy
          obtain ⟨rfl, rfl⟩ := hvy
          obtain ⟨yb, yo, rfl, hyb, y0, y1, y2, y3⟩ := hyp k c hcs
          have y0' := (HBW.out.cell (p := ⟨yb, yo + k * 4, none⟩) hyb).trans y0
          have y1' := (HBW.out.cell (p := ⟨yb, yo + k * 4 + 1, none⟩) hyb).trans y1
          have y2' := (HBW.out.cell (p := ⟨yb, yo + k * 4 + 2, none⟩) hyb).trans y2
          have y3' := (HBW.out.cell (p := ⟨yb, yo + k * 4 + 3, none⟩) hyb).trans y3
          have hyl : yb < wr.heap.size := Nat.lt_of_lt_of_le hyb hwz
          unfold maxLen at hym
          have o1 : (k : Int) < (S.cs.length : Int) := by omega
          have hne := run_neq_chk c
          have hgd := fun (wx : World) => run_eqGuard_agg wx .neq 44 (.tmp 98) (.tmp 103) #[.string c.1, .int .i64 c.2.1, .int .i64 c.2.2.1, .int .i64 c.2.2.2] #[.string c.1, .int .i64 c.2.1, .int .i64 c.2.2.1, .int .i64 c.2.2.2] Try.guardChk
          simp only [chkA] at hne
          have hzero : k + 1 - S.cs.length = 0 := by omega
          have hzero' : k - S.cs.length = 0 := by omega
          have HZ0 := Keep.mk (And.intro hzero hzero')
          clear y0 y1 y2 y3 hyp hc hcs hzero hzero'
          go_wp2_with fail
          go_quiet (fail)
          go_wp2
          go_roundw
          case rel => exact ⟨k + 1, by omega, by go_num, by rw [HZ0.out.1, HZ0.out.2], below_drewN (HBW.out.alloc hwz _) _⟩
          case measure => simp [intOf]; omega
        · have hnew : news[k - S.cs.length]? = some c := by rw [HR1.out, List.getElem?_append_right (by omega)] at hc; exact hc
          obtain ⟨n, hn1, hn2, hn3⟩ := HCH.out.at hnew
          have hle := lens_take_le news (k - S.cs.length + 1)
          have hk1 : k + 1 - S.cs.length = k - S.cs.length + 1 := by omega
          have hbd : S.st.size + lens (news.take (k - S.cs.length)) + n ≤ 1000000 := by
            have h1 := HSUM.out
            have h2 := HRF.out
            unfold lens
            omega
          have hnx : lens (news.take (k + 1 - S.cs.length)) = lens (news.take (k - S.cs.length)) + n := by rw [hk1]; exact hn3
          have HNX := Keep.mk hnx
          obtain ⟨d, c2⟩ := c
          have hn2' : c2 = (S.ses, ((S.st.size + lens (news.take (k - S.cs.length)) : Nat) : Int), (n : Int)) := hn2
          subst hn2'
          generalize hNN : S.st.size + lens (news.take (k - S.cs.length)) = N at *
          have HNN := Keep.mk hNN
          simp only at x0' x1' x2' x3'
          have o1 : ¬ (k : Int) < (S.cs.length : Int) := by omega
          have t1 : (S.ses != S.ses) = false := by simp
          have t2 : ((N : Int) != (N : Int)) = false := by simp
          have t3 : ¬ (n : Int) < 1 := by omega
          clear hc hnew hn2 hn3 hle hk1 hnx hNN
          go_wp2_with fail
          go_roundw
          case rel => exact ⟨k + 1, by omega, by go_num, by rw [HNX.out, ← Nat.add_assoc, HNN.out]; go_num, HBW.out.alloc hwz _⟩
          case measure => simp [intOf]; omega
      · have hkl : k = r.1.length := by omega
        subst hkl
        have hend : S.st.size + lens (news.take (r.1.length - S.cs.length)) = r.2.1.size := by
          rw [show r.1.length - S.cs.length = news.length by have := HLEN.out; omega, List.take_length, HSUM.out]; rfl
        rw [hend]
        have z2 := (AZ.out.below hbr AZ.out.lt).cell 2
        simp only [storeCells, List.getElem?_cons_zero, List.getElem?_cons_succ] at z2
        have HBF := Keep.mk (BZ.out.trans (hbr.mono BZ.out.size))
        have t1 : ((r.2.1.size : Int) == (r.2.1.size : Int)) = true := by simp
        clear hend hbr HBW
        go_wp2_with fail
        refine (awake_any _).mono ?_
        rintro e7 w7 ⟨rfl, hb7⟩
        have HB7 := Keep.mk (HBF.out.trans (hb7.mono HBF.out.size))
        clear hb7
        go_wp2
        go_ret
        exact ⟨rfl, HB7.out⟩

theorem ChunkstoreAppends_walk : LawWalk 5 Try.f5 := by
  intro H enc W base args ds ps hval hA hsz
  rw [Try.params5] at hA hval hsz
  obtain ⟨v0, vs0, d0, ds0, p0, q0, hargs, rfl, rfl, h0, r0⟩ := trodAll_cons hA
  obtain ⟨v1, vs1, d1, ds1, p1, q1, rfl, rfl, rfl, h1, r1⟩ := trodAll_cons r0
  obtain ⟨v2, vs2, d2, ds2, p2, q2, rfl, rfl, rfl, h2, r2⟩ := trodAll_cons r1
  obtain ⟨rfl, rfl, rfl⟩ := trodAll_nil r2
  obtain rfl : args = #[v0, v1, v2] := by cases args; simp_all
  obtain ⟨l, k1, _, k3, _⟩ := open_strs0 (hval 0 22 v0 rfl rfl) h0 (sized_each hsz (j := 0) rfl rfl)
  obtain ⟨n, rfl, rfl, rfl, wn⟩ := open_int Try.underlying5 (hval 1 5 v1 rfl rfl) h1
  obtain ⟨s, rfl, rfl, rfl, ws⟩ := open_string Try.underlying9 (hval 2 9 v2 rfl rfl) h2
  have hn : 0 ≤ n ∧ n < 256 := by
    simp only [Lit.wf, IntKind.min, IntKind.max, IntKind.signed, IntKind.bits] at wn
    simp at wn
    omega
  obtain ⟨c, rfl⟩ := Int.eq_ofNat_of_zero_le hn.1
  exact appends_any (by omega) (by simpa [maxLen] using ws) k3 k1
end Go.Proofs.Ytomlknjpaielgaa
namespace Go.Proofs.Ytomlknjpaielgaa
open Go.ChangeShapes Go.WideShapes Go.ChangeAt Go.RowKit
set_option maxRecDepth 100000 in
theorem ChunkstoreAppends_lifted (os : Os) (started : os.Started) (H : Type) (enc : TypeId × Value → H) :
    ReturnsInHanded {} Try.checked os 5 .any (Rows.chunkstoreAppendsSpec.pre6 enc Try.prog Try.f5 Rows.chunkstoreAppendsRow.domain false) (Rows.chunkstoreAppendsSpec.post enc Try.prog Try.f5 false true false false) := by
  refine returnsInHanded_of_change_sized (C := Try.checked) own started (by kernel_rfl) Try.func5
    (ChangeSpec.witness6 (enc := enc) (C := Try.checked) false ⟨#[], #[.slice none 0 0, .int .u8 0, .string ⟨#[]⟩], []⟩ 8 (by kernel_rfl) (by kernel_rfl) (by kernel_rfl) (by kernel_rfl)) ?_
  exact law_contract (by kernel_rfl) (by kernel_rfl) ⟨rfl, fun H ds h => by rw [Try.params5] at h; match ds, h with | [d0, d1, d2], _ => rfl⟩ ChunkstoreAppends_walk
theorem ChunkstoreAppends_over : Rows.chunkstoreAppendsRow.holds Try.pinned (OpenSpec.ofChange Rows.chunkstoreAppendsSpec) :=
  OpenClaim.holds_of_wide 5 Try.f5 rfl rfl rfl rfl rfl rfl rfl ⟨rfl, rfl, rfl, rfl, rfl⟩ rfl rfl rfl rfl rfl (by kernel_rfl) Try.func5 (by kernel_rfl)
    (of_decide_eq_true (by kernel_rfl)) (by unfold Func.isWrapper; first | (rw [if_pos (by decide +kernel)]; kernel_rfl) | (rw [if_neg (by decide +kernel)]; exact ⟨rfl, rfl⟩))
    (fun os started H enc _ => ChunkstoreAppends_lifted os started H enc)
theorem ChunkstoreAppends_proved : Rows.ChunkstoreAppendsSaid := ChunkstoreAppends_over
end Go.Proofs.Ytomlknjpaielgaa
