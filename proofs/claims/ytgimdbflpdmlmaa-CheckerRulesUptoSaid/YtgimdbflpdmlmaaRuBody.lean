/- The reference's body: what it says is what the program's check of statements comes to. Condition: a bound on the statements' size. -/
import Derived.Test.YtgimdbflpdmlmaaRuBodyMath
import Derived.Test.YtgimdbflpdmlmaaRuForm
import Derived.Test.YtgimdbflpdmlmaaCkUses
namespace Go.Proofs.Ytgimdbflpdmlmaa
set_option maxRecDepth 100000
open Go.RowKit Go.Shelf Go.Proofs.Ytgimdbflpdmlmaa.Ck

/-- The boxes of a round: the scope, the result, the statement, the problem at hand. -/
structure BodyIn (w wx : World) (Z Q : Nat) (own : ByteArray) (s1 s2 s3 s4 s5 : Value) (kd : Int) (name : ByteArray) (ui uv ut ue : Value) (x : ByteArray) (e : Int) : Prop where
  bx : Boxes w wx own s1 s2 s3 s4 s5
  hZ : w.heap.size + 1 < Z
  hQ : Z < Q
  st : wx.heap[Z]? = some (.cells #[.int .i64 kd, .string name, ui, uv, ut, ue] 46 (0, 0))
  pb : wx.heap[Q]? = some (.cells #[.string x, .int .i64 e] 79 (0, 0))
section
variable {w wx wy : World} {Z Q : Nat} {own : ByteArray} {s1 s2 s3 s4 s5 : Value} {kd : Int} {name : ByteArray} {ui uv ut ue : Value} {x : ByteArray} {e : Int}
theorem BodyIn.later (h : BodyIn w wx Z Q own s1 s2 s3 s4 s5 kd name ui uv ut ue x e) (hb : Below wx.heap.size wx wy) : BodyIn w wy Z Q own s1 s2 s3 s4 s5 kd name ui uv ut ue x e :=
  ⟨h.bx.later hb, h.hZ, h.hQ, (hb.block Z (Array.getElem?_eq_some_iff.1 h.st).1).trans h.st, (hb.block Q (Array.getElem?_eq_some_iff.1 h.pb).1).trans h.pb⟩
theorem BodyIn.put (h : BodyIn w wx Z Q own s1 s2 s3 s4 s5 kd name ui uv ut ue x e) (x' : ByteArray) (e' : Int) : BodyIn w ((wx.setCell ⟨Q, 0, none⟩ (.string x')).setCell ⟨Q, 1, none⟩ (.int .i64 e')) Z Q own s1 s2 s3 s4 s5 kd name ui uv ut ue x' e' := by
  have hz := h.hZ
  have hq := h.hQ
  have e0 := heap_setCell_same wx Q 0 _ _ (.string x') h.pb
  have e1 := heap_setCell_same _ Q 1 _ _ (.int .i64 e') e0
  have hb : Below Q wx ((wx.setCell ⟨Q, 0, none⟩ (.string x')).setCell ⟨Q, 1, none⟩ (.int .i64 e')) := ((Below.refl _ _).setCell (p := ⟨Q, 0, none⟩) (Nat.le_refl _) _).setCell (p := ⟨Q, 1, none⟩) (Nat.le_refl _) _
  have hs : ((wx.setCell ⟨Q, 0, none⟩ (.string x')).setCell ⟨Q, 1, none⟩ (.int .i64 e')).heap.size = wx.heap.size := by simp
  generalize ((wx.setCell ⟨Q, 0, none⟩ (.string x')).setCell ⟨Q, 1, none⟩ (.int .i64 e')) = wy at *
  have b := h.bx
  have l0 := b.l0
  have l1 := b.l1
  refine ⟨⟨b.bel.trans (hb.mono (by omega)), (hb.cell (p := ⟨w.heap.size, 0, none⟩) (by show w.heap.size < Q; omega)).trans b.c0, (hb.cell (p := ⟨w.heap.size, 1, none⟩) (by show w.heap.size < Q; omega)).trans b.c1, (hb.cell (p := ⟨w.heap.size, 2, none⟩) (by show w.heap.size < Q; omega)).trans b.c2, (hb.cell (p := ⟨w.heap.size, 3, none⟩) (by show w.heap.size < Q; omega)).trans b.c3, (hb.cell (p := ⟨w.heap.size, 4, none⟩) (by show w.heap.size < Q; omega)).trans b.c4, (hb.cell (p := ⟨w.heap.size, 5, none⟩) (by show w.heap.size < Q; omega)).trans b.c5,
    (hb.block (w.heap.size + 1) (by omega)).trans b.p, by omega, by omega⟩, hz, hq, (hb.block Z (by omega)).trans h.st, e1⟩
end
theorem stsC_step {c : Cx} {l : List St} {s : St} {k d d1 n : Nat} {x : Viol} (hx : stsC c (l.take k) d = .ok (n, d1)) (hs : l[k]? = some s) (hp : pr (stC c s d1) = x) : (x.2 ≠ 0 → pr (stsC c l d) = x) ∧ (x.2 = 0 → ∃ m d2, stsC c (l.take (k + 1)) d = .ok (m, d2)) := by
  have hsplit : l = l.take k ++ s :: l.drop (k + 1) := by
    obtain ⟨hk2, he2⟩ := List.getElem?_eq_some_iff.1 hs
    rw [← he2, ← List.drop_eq_getElem_cons hk2, List.take_append_drop]
  cases hr : stC c s d1 with
  | bad v =>
    rw [hr] at hp
    change v = x at hp
    subst hp
    refine ⟨fun _ => ?_, fun h => absurd h (nz_st c s d1 v hr)⟩
    have := stsC_bad (m := l.drop (k + 1)) hx hr
    rw [← hsplit] at this
    rw [this]; rfl
  | ok r =>
    rw [hr] at hp
    change ((⟨#[]⟩, 0) : Viol) = x at hp
    subst hp
    refine ⟨fun h => absurd rfl h, fun _ => ⟨max n r.1, r.2, ?_⟩⟩
    rw [List.take_add_one, hs]
    exact stsC_snoc_ok hx hr
theorem nz_name (c : Cx) (k : Int) (name : BA) : NZ (nameC c k name) := by
  unfold nameC
  split
  · exact nz_scalar c name
  · split
    · exact nz_array c name
    · exact NZ.ok _
theorem pr_more {A : Res Unit} {α β : Type} {B : Res α} {f : α → Res β} {x : Viol} (h : pr (A.bind fun _ => B) = x) (hx : x.2 ≠ 0) : pr (A.bind fun _ => B.bind f) = x := by
  cases A with
  | bad v => exact h
  | ok a =>
    cases B with
    | bad v => exact h
    | ok b => exact absurd (by rw [← h]; rfl) hx
theorem pr_first {A : Res Unit} {α : Type} {B : Res α} {x : Viol} (h : pr A = x) (hx : x.2 ≠ 0) : pr (A.bind fun _ => B) = x := by
  cases A with
  | bad v => exact h
  | ok a => exact absurd (by rw [← h]; rfl) hx
set_option maxHeartbeats 32000000 in
theorem body_any {s1 s2 s3 s4 s5 : Value} {c : Cx} {fu : List Fu} {later : List BA} (n : Nat) : ∀ (l : List St) (u : Value) (w : World) (d : Nat), StsAt w n u l → szS l ≤ 1000000000 → ScAt w s1 s2 s3 s4 s5 c fu later →
    Calls Try.prog 32 #[scV c s1 s2 s3 s4 s5, u] w fun e' w' => e' = .returned (probV (pr (stsC c l d))) ∧ Below w.heap.size w w' := by
  induction n using Nat.strongRecOn with
  | ind n ih =>
  intro l u w d hE hz h
  obtain ⟨ua, ucap, rfl, hu1, hu2⟩ := hE.len
  obtain ⟨⟨a1, c1, rfl⟩, ⟨a2, c2, rfl⟩, ⟨a3, c3, rfl⟩, ⟨a4, c4, rfl, k1, k2⟩, a5, c5, rfl⟩ := h.slices
  have H := Keep.mk h
  have HE' := Keep.mk hE
  have IH := Keep.mk ih
  have HZ := Keep.mk hz
  obtain ⟨q, hq⟩ : ∃ q, q = pr (stsC c l d) := ⟨_, rfl⟩
  rw [← hq]
  have HQ := Keep.mk hq
  unfold maxLen at hu2 k2
  clear h hE ih hz hq
  obtain ⟨i0, hi, hz0, hz1, hz2⟩ := info_parts Try.infoExpr
  go_enter Try.func32, Try.ntmps32
  have HB := Keep.mk (Boxes.made w c.name (.slice a1 c.own.length c1) (.slice a2 c.vars.length c2) (.slice a3 c.arrays.length c3) (.slice a4 fu.length c4) (.slice a5 later.length c5))
  unfold scV
  go_upto_region 1 with (fail)
  generalize ((w.alloc (.cells #[.string c.name, .slice a1 c.own.length c1, .slice a2 c.vars.length c2, .slice a3 c.arrays.length c3, .slice a4 fu.length c4, .slice a5 later.length c5] 83)).alloc (.cells #[.string ⟨#[]⟩, .int .i64 0] 79)) = w1 at *
  go_wp2_with fail
  go_loopw [13] (fun i wr => ∃ (k m1 d1 : Nat), k ≤ l.length ∧ i = .int .i64 k ∧ Keep (stsC c (l.take k) d = .ok (m1, d1)) ∧ Keep (Boxes w wr c.name (.slice a1 c.own.length c1) (.slice a2 c.vars.length c2) (.slice a3 c.arrays.length c3) (.slice a4 fu.length c4) (.slice a5 later.length c5))) (fun i _ => l.length - (intOf i).toNat)
  case atStart => exact ⟨0, 0, d, Nat.zero_le _, rfl, ⟨by rw [List.take_zero, stsC_nil]⟩, HB⟩
  case round =>
    clear HB
    obtain ⟨k, m1, d1, hk, rfl, HX, HB⟩ := hrel
    by_cases hlt : k < l.length
    · have k0 : (0 : Int) ≤ k := by omega
      have k1' : (k : Int) < l.length := by omega
      obtain ⟨s, hsk⟩ : ∃ s, l[k]? = some s := ⟨_, List.getElem?_eq_getElem hlt⟩
      obtain ⟨m, b, o, cap, ui, uv, ut, ue, hnm, hua, hb, x0, x1, x2, x3, x4, x5, hI, hV, hT, hEl⟩ := HE'.out.get hsk
      simp only [Value.slice.injEq, true_and] at hua
      obtain ⟨rfl, rfl⟩ := hua
      have HSK := Keep.mk hsk
      have hsz := szS_get hsk
      clear hsk
      obtain ⟨kd, name, index, value, thn, els⟩ := s
      change ∃ m, ExsAt w m ui index at hI
      change ∃ m, ExsAt w m uv value at hV
      change StsAt w m ut thn at hT
      change StsAt w m ue els at hEl
      obtain ⟨mi, hI⟩ := hI
      obtain ⟨mv, hV⟩ := hV
      change w.cell? ⟨b, o + k * 6, none⟩ = some (.int .i64 kd) at x0
      change w.cell? ⟨b, o + k * 6 + 1, none⟩ = some (.string name) at x1
      have z0 := (HB.out.bel.cell (p := ⟨b, o + k * 6, none⟩) hb).trans x0
      have z1 := (HB.out.bel.cell (p := ⟨b, o + k * 6 + 1, none⟩) hb).trans x1
      have z2 := (HB.out.bel.cell (p := ⟨b, o + k * 6 + 2, none⟩) hb).trans x2
      have z3 := (HB.out.bel.cell (p := ⟨b, o + k * 6 + 3, none⟩) hb).trans x3
      have z4 := (HB.out.bel.cell (p := ⟨b, o + k * 6 + 4, none⟩) hb).trans x4
      have z5 := (HB.out.bel.cell (p := ⟨b, o + k * 6 + 5, none⟩) hb).trans x5
      have hbl : b < wr.heap.size := Nat.lt_of_lt_of_le hb HB.out.bel.size
      obtain ⟨ia, ic, rfl, _, _⟩ := hI.len
      obtain ⟨va, vc, rfl, _, _⟩ := hV.len
      obtain ⟨ta, tc, rfl, _, _⟩ := hT.len
      obtain ⟨ea, ec, rfl, _, _⟩ := hEl.len
      obtain ⟨cI, HSI, HRI⟩ := hI.slc
      obtain ⟨cV, HSV, HRV⟩ := hV.slc
      have HII := Keep.mk (And.intro HSI HRI)
      have HVV := Keep.mk (And.intro HSV HRV)
      have HVE := Keep.mk hV
      have HT := Keep.mk hT
      have HEl := Keep.mk hEl
      have hmn : m < n := by omega
      have hszs : (St.mk kd name index value thn els).sz = 1 + name.size / 8 + szS thn + szS els + szL value + szL index := by rw [St.sz]
      have hb1 : szS thn ≤ 1000000000 ∧ szS els ≤ 1000000000 ∧ value.length + index.length ≤ 1000000000 := by
        have h0 := HZ.out
        have h1 := length_szL value
        have h2 := length_szL index
        omega
      obtain ⟨hbt, hbe, hbl2⟩ := hb1
      have HBS := Keep.mk (And.intro hbt hbe)
      clear x0 x1 x2 x3 x4 x5 hI hV hT hEl hnm HSI HRI HSV HRV hszs hsz hbt hbe
      go_upto_region 4 with (fail)
      obtain ⟨Z, hZ'⟩ : ∃ Z, Z = wr.heap.size := ⟨_, rfl⟩
      have hbz : Below wr.heap.size wr (wr.alloc (.cells #[.int .i64 kd, .string name, .slice ia index.length ic, .slice va value.length vc, .slice ta thn.length tc, .slice ea els.length ec] 46)) := (Below.refl _ _).alloc (Nat.le_refl _) _
      have hZ : (wr.alloc (.cells #[.int .i64 kd, .string name, .slice ia index.length ic, .slice va value.length vc, .slice ta thn.length tc, .slice ea els.length ec] 46)).heap[wr.heap.size]? = some (.cells #[.int .i64 kd, .string name, .slice ia index.length ic, .slice va value.length vc, .slice ta thn.length tc, .slice ea els.length ec] 46 (0, 0)) := heap_alloc_new wr _
      have hZ1 : w.heap.size + 1 < Z := by rw [hZ']; exact HB.out.l1
      replace HB := Keep.mk (HB.out.later hbz)
      rw [← hZ'] at hZ ⊢
      clear hbz z0 z1 z2 z3 z4 z5 hbl hZ'
      generalize (wr.alloc (.cells #[.int .i64 kd, .string name, .slice ia index.length ic, .slice va value.length vc, .slice ta thn.length tc, .slice ea els.length ec] 46)) = wz at *
      have HST : Keep (∀ w', Below wz.heap.size wz w' → w'.heap[Z]? = some (.cells #[.int .i64 kd, .string name, .slice ia index.length ic, .slice va value.length vc, .slice ta thn.length tc, .slice ea els.length ec] 46 (0, 0))) := ⟨fun w' h => (h.block Z (Array.getElem?_eq_some_iff.1 hZ).1).trans hZ⟩
      have HSL : Keep (∀ w', Below wz.heap.size wz w' → ((w'.cell? ⟨Z, 0, none⟩ = some (.int .i64 kd) ∧ w'.cell? ⟨Z, 1, none⟩ = some (.string name)) ∧ (w'.cell? ⟨Z, 2, none⟩ = some (.slice ia index.length ic) ∧ w'.cell? ⟨Z, 3, none⟩ = some (.slice va value.length vc)) ∧ (w'.cell? ⟨Z, 4, none⟩ = some (.slice ta thn.length tc) ∧ w'.cell? ⟨Z, 5, none⟩ = some (.slice ea els.length ec)) ∧ Z < w'.heap.size)) := ⟨fun w' h => by
        have e := HST.out w' h
        exact ⟨⟨by simp [World.cell?, e], by simp [World.cell?, e]⟩, ⟨by simp [World.cell?, e], by simp [World.cell?, e]⟩, ⟨by simp [World.cell?, e], by simp [World.cell?, e]⟩, (Array.getElem?_eq_some_iff.1 e).1⟩⟩
      clear hZ
      have HZ1 := Keep.mk hZ1
      clear hZ1
      have HFm := Keep.mk (form_any (k := kd) (name := name) (index := index) (thn := thn) (els := els) (ia := ia) (ta := ta) (ea := ea) (ic := ic) (tc := tc) (ec := ec) (HVE.out.below HB.out.bel (Nat.le_refl _)))
      obtain ⟨⟨t0, t1⟩, ⟨t2, t3⟩, ⟨t4, t5⟩, tl⟩ := HSL.out _ (Below.refl _ _)
      cases hfm : formed (.mk kd name index value thn els) with
      | false =>
        rw [hfm] at HFm
        have HEq : Keep (q = (c.name, 3)) := ⟨by rw [HQ.out]; exact (stsC_step HX.out HSK.out (st_unformed hfm d1)).1 (by show (3 : Int) ≠ 0; decide)⟩
        clear hfm
        go_wp2_with fail
        refine HFm.out.mono ?_
        rintro _ w4 ⟨rfl, hb4⟩
        clear t0 t1 t2 t3 t4 t5 tl
        replace HB := Keep.mk (HB.out.later hb4)
        clear hb4 HFm
        have xc0 := HB.out.c0
        have xc1 := HB.out.c1
        have xc2 := HB.out.c2
        have xc3 := HB.out.c3
        have xc4 := HB.out.c4
        have xc5 := HB.out.c5
        have xl0 := HB.out.l0
        have xl1 := HB.out.l1
        have pc0 : w4.cell? ⟨w.heap.size + 1, 0, none⟩ = some (.string ⟨#[]⟩) := by simp [World.cell?, HB.out.p]
        have pc1 : w4.cell? ⟨w.heap.size + 1, 1, none⟩ = some (.int .i64 0) := by simp [World.cell?, HB.out.p]
        have pf0 : w4.frozen? ⟨w.heap.size + 1, 0, none⟩ = false := by simp [World.frozen?, HB.out.p]
        have pf1 : w4.frozen? ⟨w.heap.size + 1, 1, none⟩ = false := by simp [World.frozen?, HB.out.p]
        go_wp2_with fail
        have hp := HB.out.put (c.name) (3)
        have hl : w.heap.size + 1 < ((w4.setCell ⟨w.heap.size + 1, 0, none⟩ (.string (c.name))).setCell ⟨w.heap.size + 1, 1, none⟩ (.int .i64 (3))).heap.size := by simp; exact HB.out.l1
        generalize ((w4.setCell ⟨w.heap.size + 1, 0, none⟩ (.string (c.name))).setCell ⟨w.heap.size + 1, 1, none⟩ (.int .i64 (3))) = W at *
        obtain ⟨y0, y1, yb⟩ := hp
        refine bodyPost_ret (v := probV (c.name, 3)) (by simp [results, Try.results32, go_sem, y0, y1, probV]) rfl ⟨by rw [HEq.out], yb⟩
      | true =>
        rw [hfm] at HFm
        have HSAY := Keep.mk (st_says hfm d1 (c := c))
        clear hfm
        go_wp2_with fail
        refine HFm.out.mono ?_
        rintro _ w4 ⟨rfl, hb4⟩
        clear t0 t1 t2 t3 t4 t5 tl
        have HB4 := Keep.mk hb4
        replace HB := Keep.mk (HB.out.later hb4)
        clear hb4 HFm
        have HSc : Keep (∀ w', Below w4.heap.size w4 w' → (w'.cell? ⟨Z, 3, none⟩ = some (.slice va value.length vc) ∧ w'.cell? ⟨Z, 2, none⟩ = some (.slice ia index.length ic)) ∧ Below w4.heap.size w4 w') := ⟨fun w' h => by
          obtain ⟨_, ⟨e2, e3⟩, _, _⟩ := HSL.out w' (HB4.out.trans (h.mono HB4.out.size))
          exact ⟨⟨e3, e2⟩, h⟩⟩
        have hZ4 : Z < w4.heap.size := (HSL.out w4 HB4.out).2.2.2
        have hA0 : (w4.alloc (.cells #[] 42)).drew.ownsRow w4.heap.size 42 4 (.slice (some ⟨w4.heap.size, 0, none⟩) 0 0) 0 [] := World.ownsRow_made (base := w4.heap.size) (e := 42) (size := 4) w4 #[] 0 (Nat.le_refl _) (by decide) rfl
        have HA0 := Keep.mk hA0
        have hb0 : Below w4.heap.size w4 (w4.alloc (.cells #[] 42)).drew := ((Below.refl _ _).alloc (Nat.le_refl _) _).drew
        have HBA0 := Keep.mk hb0
        have HBw := Keep.mk HB.out.bel
        clear hA0 hb0
        go_upto_region 6 with (fail)
        go_region_held3 (fun w' => (w'.cell? ⟨Z, 3, none⟩ = some (.slice va value.length vc) ∧ w'.cell? ⟨Z, 2, none⟩ = some (.slice ia index.length ic)) ∧ Below w4.heap.size w4 w')
          (first | with_reducible exact HSc.out _ (Below.refl w4.heap.size w4).drew | with_reducible exact HSc.out _ (Below.refl w4.heap.size w4) | with_reducible exact HSc.out _ HBA0.out | with_reducible exact HSc.out _ H5.out.2 | with_reducible exact HSc.out _ H6.out.2 | with_reducible assumption)
          (first
            | (rw [if_pos (by rfl)]; (refine wp_append_slc2 (.tmp 23) (.tmp 25) 40 rfl w4.heap.size 42 i0 (.agg #[.string ⟨#[]⟩, .int .u32 0, .string ⟨#[]⟩, .slice none 0 0]) 4 64 Try.underlying40 hi hz0 hz1 hz2 rfl (by decide) _ 0 [] rfl HA0.out _ value.length cV rfl (HVV.out.1.below (HBw.out.trans (HBA0.out.mono HBw.out.size)) (Nat.le_refl _)) HVV.out.2.one (by unfold maxLen; omega) (by omega) HBA0.out.size ?_); intro v5 w5 hown5 hg5 hv5; have H5 := Keep.mk (And.intro hown5 (below_append HBA0.out HBA0.out.size HA0.out (Nat.le_refl _) hg5)); clear hown5 hg5 hv5)
            | (rw [if_pos (by rfl)]; (refine wp_append_slc2 (.tmp 26) (.tmp 28) 40 rfl w4.heap.size 42 i0 (.agg #[.string ⟨#[]⟩, .int .u32 0, .string ⟨#[]⟩, .slice none 0 0]) 4 64 Try.underlying40 hi hz0 hz1 hz2 rfl (by decide) _ (0 + value.length) ([] ++ cV) rfl H5.out.1 _ index.length cI rfl (HII.out.1.below (HBw.out.trans (H5.out.2.mono HBw.out.size)) (Nat.le_refl _)) HII.out.2.one (by unfold maxLen; omega) (by omega) H5.out.2.size ?_); intro v6 w6 hown6 hg6 hv6; obtain ⟨a6, c6, rfl⟩ := ownsRow_slice hown6; have H6 := Keep.mk (And.intro hown6 (below_append H5.out.2 H5.out.2.size H5.out.1 (Nat.le_refl _) hg6)); clear hown6 hg6 hv6))
        replace HB := Keep.mk (HB.out.later H6.out.2)
        obtain ⟨nj, hJ⟩ := exs_joined (l1 := value) (l2 := index) HVV.out.2 HII.out.2 HB.out.bel (by simpa using H6.out.1)
        have HJ := Keep.mk hJ
        have HB6 := Keep.mk (HB4.out.trans (H6.out.2.mono HB4.out.size))
        clear hJ HSc HA0 HBA0 H5 H6 HVV HII HBw HVE HB4
        obtain ⟨L, hL⟩ : ∃ L, L = value ++ index := ⟨_, rfl⟩
        rw [← hL] at HJ HSAY
        have e1 : 0 + value.length + index.length = L.length := by rw [hL, List.length_append]; omega
        have e2 : (value.length : Int) + (index.length : Int) = (L.length : Int) := by rw [hL, List.length_append]; omega
        have e3 : value.length + index.length = L.length := by rw [hL, List.length_append]
        have hLb : L.length ≤ 1000000000 := by omega
        have HLT := Keep.mk (And.intro hlt hk)
        rw [e1, e2]
        rw [e3] at HJ
        clear e1 e2 e3 hL hbl2 hlt hk k0 k1'
        clear wr
        go_wp2_with fail
        go_loopw [31] (fun i wr => ∃ (j : Nat) (ns : List Nat) (d2 : Nat), j ≤ L.length ∧ i = .int .i64 j ∧ Keep (exprsC c (L.take j) d1 = .ok (ns, d2)) ∧ Keep (Boxes w wr c.name (.slice a1 c.own.length c1) (.slice a2 c.vars.length c2) (.slice a3 c.arrays.length c3) (.slice a4 fu.length c4) (.slice a5 later.length c5)) ∧ Keep (Below wz.heap.size wz wr) ∧ Keep (ExsAt wr nj (.slice a6 L.length c6) L)) (fun i _ => L.length - (intOf i).toNat)
        case atStart => exact ⟨0, [], d1, Nat.zero_le _, rfl, ⟨by rw [List.take_zero, exprsC_nil]⟩, HB, HB6, HJ⟩
        case round =>
          clear HB HB6 HJ
          obtain ⟨j, ns, d2, hj, rfl, HXL, HB, HBz, HJr⟩ := hrel
          by_cases hlj : j < L.length
          · have j0 : (0 : Int) ≤ j := by omega
            have j1 : (j : Int) < L.length := by omega
            obtain ⟨e, hej⟩ : ∃ e, L[j]? = some e := ⟨_, List.getElem?_eq_getElem hlj⟩
            obtain ⟨me, b', o', cap', u, hme, hua, hb', z0, z1, z2, z3, hu⟩ := HJr.out.get hej
            simp only [Value.slice.injEq, true_and] at hua
            obtain ⟨rfl, rfl⟩ := hua
            have HEJ := Keep.mk hej
            obtain ⟨uu, ucap', rfl, _, _⟩ := hu.len
            have HU := Keep.mk hu
            clear hej hu hme
            go_upto_region 9 with (fail)
            have hbs : Below wr.heap.size wr (wr.alloc (.cells #[.string e.op, .int .u32 e.num, .string e.name, .slice uu e.args.length ucap'] 42)) := (Below.refl _ _).alloc (Nat.le_refl _) _
            have hY : (wr.alloc (.cells #[.string e.op, .int .u32 e.num, .string e.name, .slice uu e.args.length ucap'] 42)).heap[wr.heap.size]? = some (.cells #[.string e.op, .int .u32 e.num, .string e.name, .slice uu e.args.length ucap'] 42 (0, 0)) := heap_alloc_new wr _
            replace HB := Keep.mk (HB.out.later hbs)
            replace HBz := Keep.mk (HBz.out.trans (hbs.mono HBz.out.size))
            replace HJr := Keep.mk (HJr.out.below hbs (Nat.le_refl _))
            replace HU := Keep.mk (HU.out.below hbs (Nat.le_refl _))
            clear hbs z0 z1 z2 z3 hb'
            obtain ⟨Y, hY'⟩ : ∃ Y, Y = wr.heap.size := ⟨_, rfl⟩
            rw [← hY'] at hY ⊢
            generalize (wr.alloc (.cells #[.string e.op, .int .u32 e.num, .string e.name, .slice uu e.args.length ucap'] 42)) = ws at *
            have p0 : ws.cell? ⟨Y, 0, none⟩ = some (.string e.op) := by simp [World.cell?, hY]
            have p1 : ws.cell? ⟨Y, 1, none⟩ = some (.int .u32 e.num) := by simp [World.cell?, hY]
            have p2 : ws.cell? ⟨Y, 2, none⟩ = some (.string e.name) := by simp [World.cell?, hY]
            have p3 : ws.cell? ⟨Y, 3, none⟩ = some (.slice uu e.args.length ucap') := by simp [World.cell?, hY]
            have pl : Y < ws.heap.size := (Array.getElem?_eq_some_iff.1 hY).1
            clear hY hY'
            have hi' := rexpr_any me e _ ws d2 HU.out (H.out.below HB.out.bel)
            obtain ⟨v1, v2, hv⟩ : ∃ v1 v2, pr (exprC c e d2) = (v1, v2) := ⟨_, _, rfl⟩
            rw [hv] at hi'
            unfold probV scV at hi'
            have HI := Keep.mk hi'
            have HV := Keep.mk hv
            clear hi' hv
            have xc0 := HB.out.c0
            have xc1 := HB.out.c1
            have xc2 := HB.out.c2
            have xc3 := HB.out.c3
            have xc4 := HB.out.c4
            have xc5 := HB.out.c5
            have xl0 := HB.out.l0
            have xl1 := HB.out.l1
            have pc0 : ws.cell? ⟨w.heap.size + 1, 0, none⟩ = some (.string ⟨#[]⟩) := by simp [World.cell?, HB.out.p]
            have pc1 : ws.cell? ⟨w.heap.size + 1, 1, none⟩ = some (.int .i64 0) := by simp [World.cell?, HB.out.p]
            have pf0 : ws.frozen? ⟨w.heap.size + 1, 0, none⟩ = false := by simp [World.frozen?, HB.out.p]
            have pf1 : ws.frozen? ⟨w.heap.size + 1, 1, none⟩ = false := by simp [World.frozen?, HB.out.p]
            go_wp2_with fail
            refine HI.out.mono ?_
            rintro _ w5 ⟨rfl, hb5⟩
            clear xc0 xc1 xc2 xc3 xc4 xc5 xl0 xl1 pc0 pc1 pf0 pf1 p0 p1 p2 p3 pl HI HU
            replace HB := Keep.mk (HB.out.later hb5)
            replace HBz := Keep.mk (HBz.out.trans (hb5.mono HBz.out.size))
            replace HJr := Keep.mk (HJr.out.below hb5 (Nat.le_refl _))
            clear hb5
            have hba : Below w5.heap.size w5 (w5.alloc (.cells #[.string v1, .int .i64 v2] 79)) := (Below.refl _ _).alloc (Nat.le_refl _) _
            have HBa := Keep.mk (And.intro (HB.out.later hba) (And.intro (HBz.out.trans (hba.mono HBz.out.size)) (HJr.out.below hba (Nat.le_refl _))))
            clear hba HJr HBz
            have xc0 := HB.out.c0
            have xc1 := HB.out.c1
            have xc2 := HB.out.c2
            have xc3 := HB.out.c3
            have xc4 := HB.out.c4
            have xc5 := HB.out.c5
            have xl0 := HB.out.l0
            have xl1 := HB.out.l1
            have pc0 : w5.cell? ⟨w.heap.size + 1, 0, none⟩ = some (.string ⟨#[]⟩) := by simp [World.cell?, HB.out.p]
            have pc1 : w5.cell? ⟨w.heap.size + 1, 1, none⟩ = some (.int .i64 0) := by simp [World.cell?, HB.out.p]
            have pf0 : w5.frozen? ⟨w.heap.size + 1, 0, none⟩ = false := by simp [World.frozen?, HB.out.p]
            have pf1 : w5.frozen? ⟨w.heap.size + 1, 1, none⟩ = false := by simp [World.frozen?, HB.out.p]
            by_cases hv2 : v2 = 0
            · obtain ⟨⟨n1, d3⟩, hr⟩ := (prob_nz (nz_expr c e d2)).1 (by rw [HV.out]; exact hv2)
              have HX2 : Keep (exprsC c (L.take (j + 1)) d1 = .ok (ns ++ [n1], d3)) := ⟨by
                rw [List.take_add_one, HEJ.out]
                exact exprsC_snoc_ok HXL.out hr⟩
              subst hv2
              clear hr
              go_wp2_with fail
              go_roundw
              case rel => exact ⟨j + 1, ns ++ [n1], d3, by omega, by go_num, HX2, ⟨HBa.out.1⟩, ⟨HBa.out.2.1⟩, ⟨HBa.out.2.2⟩⟩
              case measure => simp [intOf]; omega
            · have q2 : (v2 != 0) = true := by simp [hv2]
              have HEq : Keep (q = (v1, v2)) := ⟨by
                rw [HQ.out]
                refine (stsC_step HX.out HSK.out ?_).1 hv2
                rw [HSAY.out]
                have hsplit : L = L.take j ++ e :: L.drop (j + 1) := by
                  obtain ⟨hk2, he2⟩ := List.getElem?_eq_some_iff.1 HEJ.out
                  rw [← he2, ← List.drop_eq_getElem_cons hk2, List.take_append_drop]
                cases hx : exprC c e d2 with
                | ok r =>
                  have h2 := HV.out
                  rw [hx, pr_ok] at h2
                  cases h2
                  exact absurd rfl hv2
                | bad v =>
                  have h2 := HV.out
                  rw [hx] at h2
                  change v = (v1, v2) at h2
                  have hbad := exprsC_bad (m := L.drop (j + 1)) HXL.out hx
                  rw [← hsplit] at hbad
                  rw [pr_bad hbad, h2]⟩
              clear hv2
              go_wp2_with fail
              have hp := HB.out.put (v1) (v2)
              have hl : w.heap.size + 1 < ((w5.setCell ⟨w.heap.size + 1, 0, none⟩ (.string (v1))).setCell ⟨w.heap.size + 1, 1, none⟩ (.int .i64 (v2))).heap.size := by simp; exact HB.out.l1
              generalize ((w5.setCell ⟨w.heap.size + 1, 0, none⟩ (.string (v1))).setCell ⟨w.heap.size + 1, 1, none⟩ (.int .i64 (v2))) = W at *
              obtain ⟨y0, y1, yb⟩ := hp
              have hba : Below W.heap.size W (W.alloc (.cells #[.string v1, .int .i64 v2] 79)) := (Below.refl _ _).alloc (Nat.le_refl _) _
              have y0 := (hba.cell (p := ⟨w.heap.size + 1, 0, none⟩) hl).trans y0
              have y1 := (hba.cell (p := ⟨w.heap.size + 1, 1, none⟩) hl).trans y1
              have yb := yb.trans (hba.mono yb.size)
              generalize (W.alloc (.cells #[.string v1, .int .i64 v2] 79)) = W2 at *
              refine bodyPost_ret (v := probV (v1, v2)) (by simp [results, Try.results32, go_sem, y0, y1, probV]) rfl ⟨by rw [HEq.out], yb⟩
          · obtain rfl : j = L.length := by omega
            rw [List.take_length] at HXL
            clear hlj hj HJr
            have HSAY2 : Keep (pr (stC c (.mk kd name index value thn els) d1) = pr ((nameC c kd name).bind fun _ => (stsC c thn d2).bind fun t => stsC c els t.2)) := ⟨by rw [HSAY.out, pr_bind HXL.out]⟩
            clear HSAY HXL
            obtain ⟨⟨t0, t1⟩, ⟨t2, t3⟩, ⟨t4, t5⟩, tl⟩ := HSL.out _ HBz.out
            have hZr := HST.out _ HBz.out
            have HZR := Keep.mk hZr
            clear hZr HBz
            go_upto_if 46 with (fail)
            obtain ⟨Q, hQ⟩ : ∃ Q, Q = wr.heap.size := ⟨_, rfl⟩
            have hba : Below wr.heap.size wr (wr.alloc (.cells #[.string ⟨#[]⟩, .int .i64 0] 79)) := (Below.refl _ _).alloc (Nat.le_refl _) _
            have HI0 : Keep (BodyIn w (wr.alloc (.cells #[.string ⟨#[]⟩, .int .i64 0] 79)) Z Q c.name (.slice a1 c.own.length c1) (.slice a2 c.vars.length c2) (.slice a3 c.arrays.length c3) (.slice a4 fu.length c4) (.slice a5 later.length c5) kd name (.slice ia index.length ic) (.slice va value.length vc) (.slice ta thn.length tc) (.slice ea els.length ec) ⟨#[]⟩ 0) := ⟨HB.out.later hba, HZ1.out, by rw [hQ]; exact tl, (hba.block Z tl).trans HZR.out, by rw [hQ]; exact heap_alloc_new wr _⟩
            rw [← hQ]
            clear hba hQ HB t0 t1 t2 t3 t4 t5 tl HZR HST HSL
            generalize (wr.alloc (.cells #[.string ⟨#[]⟩, .int .i64 0] 79)) = wp at *
            generalize ht : (kd == 1) = t1 at *
            have HTT := Keep.mk ht
            clear ht
            go_cut [] from 47 to 51 (fun wx => ∃ v1 v2, ((kd = 1 → pr (scalarC c name) = (v1, v2)) ∧ (kd ≠ 1 → v1 = ⟨#[]⟩ ∧ v2 = 0)) ∧ BodyIn w wx Z Q c.name (.slice a1 c.own.length c1) (.slice a2 c.vars.length c2) (.slice a3 c.arrays.length c3) (.slice a4 fu.length c4) (.slice a5 later.length c5) kd name (.slice ia index.length ic) (.slice va value.length vc) (.slice ta thn.length tc) (.slice ea els.length ec) v1 v2)
            case first =>
              cases t1 with
              | true =>
                have HK : Keep (kd = 1) := ⟨by simpa using HTT.out⟩
                have hi' := rscalar_any (H.out.below HI0.out.bx.bel) name
                obtain ⟨y1, y2, hv⟩ : ∃ y1 y2, pr (scalarC c name) = (y1, y2) := ⟨_, _, rfl⟩
                rw [hv] at hi'
                unfold probV scV at hi'
                have HI := Keep.mk hi'
                have HV := Keep.mk hv
                clear hi' hv
                have xc0 := HI0.out.bx.c0
                have xc1 := HI0.out.bx.c1
                have xc2 := HI0.out.bx.c2
                have xc3 := HI0.out.bx.c3
                have xc4 := HI0.out.bx.c4
                have xc5 := HI0.out.bx.c5
                have xl0 := HI0.out.bx.l0
                have xl1 := HI0.out.bx.l1
                have s0 : wp.cell? ⟨Z, 0, none⟩ = some (.int .i64 kd) := by simp [World.cell?, HI0.out.st]
                have s1 : wp.cell? ⟨Z, 1, none⟩ = some (.string name) := by simp [World.cell?, HI0.out.st]
                have s2 : wp.cell? ⟨Z, 2, none⟩ = some (.slice ia index.length ic) := by simp [World.cell?, HI0.out.st]
                have s3 : wp.cell? ⟨Z, 3, none⟩ = some (.slice va value.length vc) := by simp [World.cell?, HI0.out.st]
                have s4 : wp.cell? ⟨Z, 4, none⟩ = some (.slice ta thn.length tc) := by simp [World.cell?, HI0.out.st]
                have s5 : wp.cell? ⟨Z, 5, none⟩ = some (.slice ea els.length ec) := by simp [World.cell?, HI0.out.st]
                have sl : Z < wp.heap.size := (Array.getElem?_eq_some_iff.1 HI0.out.st).1
                go_wp2_with fail
                refine HI.out.mono ?_
                rintro _ w5 ⟨rfl, hb5⟩
                replace HI0 := Keep.mk (HI0.out.later hb5)
                clear xc0 xc1 xc2 xc3 xc4 xc5 xl0 xl1 s0 s1 s2 s3 s4 s5 sl hb5
                have q0 : w5.cell? ⟨Q, 0, none⟩ = some (.string ⟨#[]⟩) := by simp [World.cell?, HI0.out.pb]
                have q1 : w5.cell? ⟨Q, 1, none⟩ = some (.int .i64 0) := by simp [World.cell?, HI0.out.pb]
                have qf0 : w5.frozen? ⟨Q, 0, none⟩ = false := by simp [World.frozen?, HI0.out.pb]
                have qf1 : w5.frozen? ⟨Q, 1, none⟩ = false := by simp [World.frozen?, HI0.out.pb]
                have ql : Q < w5.heap.size := (Array.getElem?_eq_some_iff.1 HI0.out.pb).1
                go_wp2_with fail
                go_meet
                exact ⟨y1, y2, ⟨fun _ => HV.out, fun h => absurd HK.out h⟩, HI0.out.put y1 y2⟩
              | false =>
                have HK : Keep (¬ kd = 1) := ⟨by simpa using HTT.out⟩
                go_wp2_with fail
                go_meet
                exact ⟨_, _, ⟨fun h => absurd h HK.out, fun _ => ⟨rfl, rfl⟩⟩, HI0.out⟩
            case rest =>
            clear HI0
            obtain ⟨u1, u2, hg, hI⟩ := hcut
            have HG := Keep.mk hg
            have HI0 := Keep.mk hI
            clear hg hI
            clear wp
            generalize wc = wp at *
            have s0 : wp.cell? ⟨Z, 0, none⟩ = some (.int .i64 kd) := by simp [World.cell?, HI0.out.st]
            have s1 : wp.cell? ⟨Z, 1, none⟩ = some (.string name) := by simp [World.cell?, HI0.out.st]
            have s2 : wp.cell? ⟨Z, 2, none⟩ = some (.slice ia index.length ic) := by simp [World.cell?, HI0.out.st]
            have s3 : wp.cell? ⟨Z, 3, none⟩ = some (.slice va value.length vc) := by simp [World.cell?, HI0.out.st]
            have s4 : wp.cell? ⟨Z, 4, none⟩ = some (.slice ta thn.length tc) := by simp [World.cell?, HI0.out.st]
            have s5 : wp.cell? ⟨Z, 5, none⟩ = some (.slice ea els.length ec) := by simp [World.cell?, HI0.out.st]
            have sl : Z < wp.heap.size := (Array.getElem?_eq_some_iff.1 HI0.out.st).1
            go_upto_if 53 with (fail)
            clear s0 s1 s2 s3 s4 s5 sl
            generalize ht : (kd == 2) = t2 at *
            have HTT := Keep.mk ht
            clear ht
            go_cut [] from 54 to 58 (fun wx => ∃ v1 v2, pr (nameC c kd name) = (v1, v2) ∧ BodyIn w wx Z Q c.name (.slice a1 c.own.length c1) (.slice a2 c.vars.length c2) (.slice a3 c.arrays.length c3) (.slice a4 fu.length c4) (.slice a5 later.length c5) kd name (.slice ia index.length ic) (.slice va value.length vc) (.slice ta thn.length tc) (.slice ea els.length ec) v1 v2)
            case first =>
              cases t2 with
              | true =>
                have HK : Keep (kd = 2) := ⟨by simpa using HTT.out⟩
                have hi' := rindexed_any (H.out.below HI0.out.bx.bel) name
                obtain ⟨y1, y2, hv⟩ : ∃ y1 y2, pr (arrayC c name) = (y1, y2) := ⟨_, _, rfl⟩
                rw [hv] at hi'
                unfold probV scV at hi'
                have HI := Keep.mk hi'
                have HV := Keep.mk hv
                clear hi' hv
                have xc0 := HI0.out.bx.c0
                have xc1 := HI0.out.bx.c1
                have xc2 := HI0.out.bx.c2
                have xc3 := HI0.out.bx.c3
                have xc4 := HI0.out.bx.c4
                have xc5 := HI0.out.bx.c5
                have xl0 := HI0.out.bx.l0
                have xl1 := HI0.out.bx.l1
                have s0 : wp.cell? ⟨Z, 0, none⟩ = some (.int .i64 kd) := by simp [World.cell?, HI0.out.st]
                have s1 : wp.cell? ⟨Z, 1, none⟩ = some (.string name) := by simp [World.cell?, HI0.out.st]
                have s2 : wp.cell? ⟨Z, 2, none⟩ = some (.slice ia index.length ic) := by simp [World.cell?, HI0.out.st]
                have s3 : wp.cell? ⟨Z, 3, none⟩ = some (.slice va value.length vc) := by simp [World.cell?, HI0.out.st]
                have s4 : wp.cell? ⟨Z, 4, none⟩ = some (.slice ta thn.length tc) := by simp [World.cell?, HI0.out.st]
                have s5 : wp.cell? ⟨Z, 5, none⟩ = some (.slice ea els.length ec) := by simp [World.cell?, HI0.out.st]
                have sl : Z < wp.heap.size := (Array.getElem?_eq_some_iff.1 HI0.out.st).1
                go_wp2_with fail
                refine HI.out.mono ?_
                rintro _ w5 ⟨rfl, hb5⟩
                replace HI0 := Keep.mk (HI0.out.later hb5)
                clear xc0 xc1 xc2 xc3 xc4 xc5 xl0 xl1 s0 s1 s2 s3 s4 s5 sl hb5
                have q0 : w5.cell? ⟨Q, 0, none⟩ = some (.string u1) := by simp [World.cell?, HI0.out.pb]
                have q1 : w5.cell? ⟨Q, 1, none⟩ = some (.int .i64 u2) := by simp [World.cell?, HI0.out.pb]
                have qf0 : w5.frozen? ⟨Q, 0, none⟩ = false := by simp [World.frozen?, HI0.out.pb]
                have qf1 : w5.frozen? ⟨Q, 1, none⟩ = false := by simp [World.frozen?, HI0.out.pb]
                have ql : Q < w5.heap.size := (Array.getElem?_eq_some_iff.1 HI0.out.pb).1
                go_wp2_with fail
                go_meet
                exact ⟨y1, y2, by unfold nameC; rw [if_neg (by rw [HK.out]; decide), if_pos HK.out]; exact HV.out, HI0.out.put y1 y2⟩
              | false =>
                have HK : Keep (¬ kd = 2) := ⟨by simpa using HTT.out⟩
                go_wp2_with fail
                go_meet
                refine ⟨u1, u2, ?_, HI0.out⟩
                unfold nameC
                by_cases h1 : kd = 1
                · rw [if_pos h1]; exact HG.out.1 h1
                · rw [if_neg h1, if_neg HK.out]
                  obtain ⟨rfl, rfl⟩ := HG.out.2 h1
                  rfl
            case rest =>
            clear HI0 HG
            obtain ⟨u1, u2, hg, hI⟩ := hcut
            have HG := Keep.mk hg
            have HI0 := Keep.mk hI
            clear hg hI
            clear wp
            generalize wc = wp at *
            have q0 : wp.cell? ⟨Q, 0, none⟩ = some (.string u1) := by simp [World.cell?, HI0.out.pb]
            have q1 : wp.cell? ⟨Q, 1, none⟩ = some (.int .i64 u2) := by simp [World.cell?, HI0.out.pb]
            have qf0 : wp.frozen? ⟨Q, 0, none⟩ = false := by simp [World.frozen?, HI0.out.pb]
            have qf1 : wp.frozen? ⟨Q, 1, none⟩ = false := by simp [World.frozen?, HI0.out.pb]
            have ql : Q < wp.heap.size := (Array.getElem?_eq_some_iff.1 HI0.out.pb).1
            go_upto_if 60 with (fail)
            clear q0 q1 qf0 qf1 ql
            generalize ht : (u2 == 0) = t3 at *
            have HTT := Keep.mk ht
            clear ht
            go_cut [] from 61 to 65 (fun wx => ∃ v1 v2, pr ((nameC c kd name).bind fun _ => stsC c thn d2) = (v1, v2) ∧ BodyIn w wx Z Q c.name (.slice a1 c.own.length c1) (.slice a2 c.vars.length c2) (.slice a3 c.arrays.length c3) (.slice a4 fu.length c4) (.slice a5 later.length c5) kd name (.slice ia index.length ic) (.slice va value.length vc) (.slice ta thn.length tc) (.slice ea els.length ec) v1 v2)
            case first =>
              cases t3 with
              | true =>
                have hu : u2 = 0 := by simpa using HTT.out
                obtain ⟨_, hok⟩ := (prob_nz (nz_name c kd name)).1 (by rw [HG.out]; exact hu)
                have HOK := Keep.mk hok
                clear hok hu
                have hi' := IH.out m hmn thn _ wp d2 (HT.out.below HI0.out.bx.bel (Nat.le_refl _)) HBS.out.1 (H.out.below HI0.out.bx.bel)
                obtain ⟨y1, y2, hv⟩ : ∃ y1 y2, pr (stsC c thn d2) = (y1, y2) := ⟨_, _, rfl⟩
                rw [hv] at hi'
                unfold probV scV at hi'
                have HI := Keep.mk hi'
                have HV := Keep.mk hv
                clear hi' hv
                have xc0 := HI0.out.bx.c0
                have xc1 := HI0.out.bx.c1
                have xc2 := HI0.out.bx.c2
                have xc3 := HI0.out.bx.c3
                have xc4 := HI0.out.bx.c4
                have xc5 := HI0.out.bx.c5
                have xl0 := HI0.out.bx.l0
                have xl1 := HI0.out.bx.l1
                have s0 : wp.cell? ⟨Z, 0, none⟩ = some (.int .i64 kd) := by simp [World.cell?, HI0.out.st]
                have s1 : wp.cell? ⟨Z, 1, none⟩ = some (.string name) := by simp [World.cell?, HI0.out.st]
                have s2 : wp.cell? ⟨Z, 2, none⟩ = some (.slice ia index.length ic) := by simp [World.cell?, HI0.out.st]
                have s3 : wp.cell? ⟨Z, 3, none⟩ = some (.slice va value.length vc) := by simp [World.cell?, HI0.out.st]
                have s4 : wp.cell? ⟨Z, 4, none⟩ = some (.slice ta thn.length tc) := by simp [World.cell?, HI0.out.st]
                have s5 : wp.cell? ⟨Z, 5, none⟩ = some (.slice ea els.length ec) := by simp [World.cell?, HI0.out.st]
                have sl : Z < wp.heap.size := (Array.getElem?_eq_some_iff.1 HI0.out.st).1
                go_wp2_with fail
                refine HI.out.mono ?_
                rintro _ w5 ⟨rfl, hb5⟩
                replace HI0 := Keep.mk (HI0.out.later hb5)
                clear xc0 xc1 xc2 xc3 xc4 xc5 xl0 xl1 s0 s1 s2 s3 s4 s5 sl hb5
                have q0 : w5.cell? ⟨Q, 0, none⟩ = some (.string u1) := by simp [World.cell?, HI0.out.pb]
                have q1 : w5.cell? ⟨Q, 1, none⟩ = some (.int .i64 u2) := by simp [World.cell?, HI0.out.pb]
                have qf0 : w5.frozen? ⟨Q, 0, none⟩ = false := by simp [World.frozen?, HI0.out.pb]
                have qf1 : w5.frozen? ⟨Q, 1, none⟩ = false := by simp [World.frozen?, HI0.out.pb]
                have ql : Q < w5.heap.size := (Array.getElem?_eq_some_iff.1 HI0.out.pb).1
                go_wp2_with fail
                go_meet
                exact ⟨y1, y2, by rw [HOK.out]; exact HV.out, HI0.out.put y1 y2⟩
              | false =>
                have HK : Keep (¬ u2 = 0) := ⟨by simpa using HTT.out⟩
                go_wp2_with fail
                go_meet
                exact ⟨u1, u2, pr_first HG.out HK.out, HI0.out⟩
            case rest =>
            clear HI0 HG
            obtain ⟨u1, u2, hg, hI⟩ := hcut
            have HG := Keep.mk hg
            have HI0 := Keep.mk hI
            clear hg hI
            clear wp
            generalize wc = wp at *
            have q0 : wp.cell? ⟨Q, 0, none⟩ = some (.string u1) := by simp [World.cell?, HI0.out.pb]
            have q1 : wp.cell? ⟨Q, 1, none⟩ = some (.int .i64 u2) := by simp [World.cell?, HI0.out.pb]
            have qf0 : wp.frozen? ⟨Q, 0, none⟩ = false := by simp [World.frozen?, HI0.out.pb]
            have qf1 : wp.frozen? ⟨Q, 1, none⟩ = false := by simp [World.frozen?, HI0.out.pb]
            have ql : Q < wp.heap.size := (Array.getElem?_eq_some_iff.1 HI0.out.pb).1
            go_upto_if 67 with (fail)
            clear q0 q1 qf0 qf1 ql
            generalize ht : (u2 == 0) = t4 at *
            have HTT := Keep.mk ht
            clear ht
            go_cut [] from 68 to 72 (fun wx => ∃ v1 v2, pr ((nameC c kd name).bind fun _ => (stsC c thn d2).bind fun t => stsC c els t.2) = (v1, v2) ∧ BodyIn w wx Z Q c.name (.slice a1 c.own.length c1) (.slice a2 c.vars.length c2) (.slice a3 c.arrays.length c3) (.slice a4 fu.length c4) (.slice a5 later.length c5) kd name (.slice ia index.length ic) (.slice va value.length vc) (.slice ta thn.length tc) (.slice ea els.length ec) v1 v2)
            case first =>
              cases t4 with
              | true =>
                have hu : u2 = 0 := by simpa using HTT.out
                obtain ⟨t, hok⟩ := (prob_nz (NZ.bind (nz_name c kd name) (fun _ => nz_sts c thn d2))).1 (by rw [HG.out]; exact hu)
                obtain ⟨_, hok1, hok2⟩ := Res.bind_okay.1 hok
                have HOK := Keep.mk (And.intro hok1 hok2)
                clear hok hok1 hok2 hu
                have hi' := IH.out m hmn els _ wp t.2 (HEl.out.below HI0.out.bx.bel (Nat.le_refl _)) HBS.out.2 (H.out.below HI0.out.bx.bel)
                obtain ⟨y1, y2, hv⟩ : ∃ y1 y2, pr (stsC c els t.2) = (y1, y2) := ⟨_, _, rfl⟩
                rw [hv] at hi'
                unfold probV scV at hi'
                have HI := Keep.mk hi'
                have HV := Keep.mk hv
                clear hi' hv
                have xc0 := HI0.out.bx.c0
                have xc1 := HI0.out.bx.c1
                have xc2 := HI0.out.bx.c2
                have xc3 := HI0.out.bx.c3
                have xc4 := HI0.out.bx.c4
                have xc5 := HI0.out.bx.c5
                have xl0 := HI0.out.bx.l0
                have xl1 := HI0.out.bx.l1
                have s0 : wp.cell? ⟨Z, 0, none⟩ = some (.int .i64 kd) := by simp [World.cell?, HI0.out.st]
                have s1 : wp.cell? ⟨Z, 1, none⟩ = some (.string name) := by simp [World.cell?, HI0.out.st]
                have s2 : wp.cell? ⟨Z, 2, none⟩ = some (.slice ia index.length ic) := by simp [World.cell?, HI0.out.st]
                have s3 : wp.cell? ⟨Z, 3, none⟩ = some (.slice va value.length vc) := by simp [World.cell?, HI0.out.st]
                have s4 : wp.cell? ⟨Z, 4, none⟩ = some (.slice ta thn.length tc) := by simp [World.cell?, HI0.out.st]
                have s5 : wp.cell? ⟨Z, 5, none⟩ = some (.slice ea els.length ec) := by simp [World.cell?, HI0.out.st]
                have sl : Z < wp.heap.size := (Array.getElem?_eq_some_iff.1 HI0.out.st).1
                go_wp2_with fail
                refine HI.out.mono ?_
                rintro _ w5 ⟨rfl, hb5⟩
                replace HI0 := Keep.mk (HI0.out.later hb5)
                clear xc0 xc1 xc2 xc3 xc4 xc5 xl0 xl1 s0 s1 s2 s3 s4 s5 sl hb5
                have q0 : w5.cell? ⟨Q, 0, none⟩ = some (.string u1) := by simp [World.cell?, HI0.out.pb]
                have q1 : w5.cell? ⟨Q, 1, none⟩ = some (.int .i64 u2) := by simp [World.cell?, HI0.out.pb]
                have qf0 : w5.frozen? ⟨Q, 0, none⟩ = false := by simp [World.frozen?, HI0.out.pb]
                have qf1 : w5.frozen? ⟨Q, 1, none⟩ = false := by simp [World.frozen?, HI0.out.pb]
                have ql : Q < w5.heap.size := (Array.getElem?_eq_some_iff.1 HI0.out.pb).1
                go_wp2_with fail
                go_meet
                exact ⟨y1, y2, by rw [HOK.out.1, bind_okS, HOK.out.2]; exact HV.out, HI0.out.put y1 y2⟩
              | false =>
                have HK : Keep (¬ u2 = 0) := ⟨by simpa using HTT.out⟩
                go_wp2_with fail
                go_meet
                exact ⟨u1, u2, pr_more HG.out HK.out, HI0.out⟩
            case rest =>
            clear HI0 HG
            obtain ⟨u1, u2, hg, hI⟩ := hcut
            have HG := Keep.mk hg
            have HI0 := Keep.mk hI
            clear hg hI
            clear wp
            generalize wc = wp at *
            have HSTEP := Keep.mk (stsC_step HX.out HSK.out (HSAY2.out.trans HG.out))
            have HB := Keep.mk HI0.out.bx
            have q0 : wp.cell? ⟨Q, 0, none⟩ = some (.string u1) := by simp [World.cell?, HI0.out.pb]
            have q1 : wp.cell? ⟨Q, 1, none⟩ = some (.int .i64 u2) := by simp [World.cell?, HI0.out.pb]
            have qf0 : wp.frozen? ⟨Q, 0, none⟩ = false := by simp [World.frozen?, HI0.out.pb]
            have qf1 : wp.frozen? ⟨Q, 1, none⟩ = false := by simp [World.frozen?, HI0.out.pb]
            have ql : Q < wp.heap.size := (Array.getElem?_eq_some_iff.1 HI0.out.pb).1
            have xc0 := HB.out.c0
            have xc1 := HB.out.c1
            have xc2 := HB.out.c2
            have xc3 := HB.out.c3
            have xc4 := HB.out.c4
            have xc5 := HB.out.c5
            have xl0 := HB.out.l0
            have xl1 := HB.out.l1
            have pc0 : wp.cell? ⟨w.heap.size + 1, 0, none⟩ = some (.string ⟨#[]⟩) := by simp [World.cell?, HB.out.p]
            have pc1 : wp.cell? ⟨w.heap.size + 1, 1, none⟩ = some (.int .i64 0) := by simp [World.cell?, HB.out.p]
            have pf0 : wp.frozen? ⟨w.heap.size + 1, 0, none⟩ = false := by simp [World.frozen?, HB.out.p]
            have pf1 : wp.frozen? ⟨w.heap.size + 1, 1, none⟩ = false := by simp [World.frozen?, HB.out.p]
            by_cases hu : u2 = 0
            · have f1 : (u2 != 0) = false := by simp [hu]
              obtain ⟨m2, d3, hn⟩ := HSTEP.out.2 hu
              have HN := Keep.mk hn
              clear hn hu
              have hlk := HLT.out.1
              go_wp2_with fail
              go_roundw
              case rel => exact ⟨k + 1, m2, d3, by omega, by go_num, HN, HB⟩
              case measure => simp [intOf]; omega
            · have f1 : (u2 != 0) = true := by simp [hu]
              have HEq : Keep (q = (u1, u2)) := ⟨by rw [HQ.out]; exact HSTEP.out.1 hu⟩
              clear hu
              go_wp2_with fail
              have hp := HB.out.put (u1) (u2)
              have hl : w.heap.size + 1 < ((wp.setCell ⟨w.heap.size + 1, 0, none⟩ (.string (u1))).setCell ⟨w.heap.size + 1, 1, none⟩ (.int .i64 (u2))).heap.size := by simp; exact HB.out.l1
              generalize ((wp.setCell ⟨w.heap.size + 1, 0, none⟩ (.string (u1))).setCell ⟨w.heap.size + 1, 1, none⟩ (.int .i64 (u2))) = W at *
              obtain ⟨y0, y1, yb⟩ := hp
              refine bodyPost_ret (v := probV (u1, u2)) (by simp [results, Try.results32, go_sem, y0, y1, probV]) rfl ⟨by rw [HEq.out], yb⟩
    · obtain rfl : k = l.length := by omega
      rw [List.take_length] at HX
      have HEq : Keep (q = (⟨#[]⟩, 0)) := ⟨by rw [HQ.out, HX.out]; rfl⟩
      have xc0 := HB.out.c0
      have xc1 := HB.out.c1
      have xc2 := HB.out.c2
      have xc3 := HB.out.c3
      have xc4 := HB.out.c4
      have xc5 := HB.out.c5
      have xl0 := HB.out.l0
      have xl1 := HB.out.l1
      have pc0 : wr.cell? ⟨w.heap.size + 1, 0, none⟩ = some (.string ⟨#[]⟩) := by simp [World.cell?, HB.out.p]
      have pc1 : wr.cell? ⟨w.heap.size + 1, 1, none⟩ = some (.int .i64 0) := by simp [World.cell?, HB.out.p]
      have pf0 : wr.frozen? ⟨w.heap.size + 1, 0, none⟩ = false := by simp [World.frozen?, HB.out.p]
      have pf1 : wr.frozen? ⟨w.heap.size + 1, 1, none⟩ = false := by simp [World.frozen?, HB.out.p]
      go_wp2_with fail
      have hp := HB.out.put (⟨#[]⟩) (0)
      have hl : w.heap.size + 1 < ((wr.setCell ⟨w.heap.size + 1, 0, none⟩ (.string (⟨#[]⟩))).setCell ⟨w.heap.size + 1, 1, none⟩ (.int .i64 (0))).heap.size := by simp; exact HB.out.l1
      generalize ((wr.setCell ⟨w.heap.size + 1, 0, none⟩ (.string (⟨#[]⟩))).setCell ⟨w.heap.size + 1, 1, none⟩ (.int .i64 (0))) = W at *
      obtain ⟨y0, y1, yb⟩ := hp
      refine bodyPost_ret (v := probV (⟨#[]⟩, 0)) (by simp [results, Try.results32, go_sem, y0, y1, probV]) rfl ⟨by rw [HEq.out], yb⟩
end Go.Proofs.Ytgimdbflpdmlmaa
