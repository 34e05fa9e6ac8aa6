/- add of the reference. Condition: bounds on the extents. -/
import Derived.Test.YtomlknjpaielgaaStoreBegin
namespace Go.Proofs.Ytomlknjpaielgaa
set_option maxRecDepth 100000
open Go.RowKit Go.Shelf Go.Proofs.Ytomlknjpaielgaa.Store

theorem OwnExts.last {base : Nat} {w : World} {v : Value} {l : List Ext} {y : Ext} (h : OwnExts base w v (l ++ [y])) :
    ∃ g cap, v = .slice (some ⟨g, 0, none⟩) (l.length + 1) cap ∧ l.length + 1 ≤ cap ∧ cap ≤ maxLen ∧ base ≤ g ∧ g < w.heap.size ∧ w.cell? ⟨g, l.length * 3, none⟩ = some (.int .i64 y.1) ∧ w.cell? ⟨g, l.length * 3 + 1, none⟩ = some (.int .i64 y.2.1) ∧
      w.cell? ⟨g, l.length * 3 + 2, none⟩ = some (.int .i64 y.2.2) ∧ w.frozen? ⟨g, l.length * 3 + 2, none⟩ = false := by
  have hr := h
  have hx := Exts.parts (w := w) (v := v) (l := l ++ [y]) (Slc.of_owns hr)
  unfold OwnExts at hr
  rw [List.length_append, List.length_singleton] at hr hx
  obtain ⟨a, cap, hv, h1, h2, h3⟩ := hx
  obtain ⟨b, o, rfl, hb, c1, c2, c3⟩ := h3 l.length y (by simp)
  rcases hr.2 with ⟨_, h0⟩ | ⟨g, cap', cur, hv', hg, hh, hn, hm, hs, ht⟩
  · omega
  · rw [hv] at hv'
    simp only [Value.slice.injEq, Option.some.injEq, Addr.mk.injEq, true_and, and_true] at hv'
    obtain ⟨⟨rfl, rfl⟩, rfl⟩ := hv'
    rw [Nat.zero_add] at c1 c2 c3
    exact ⟨b, cap, hv, h1, h2, hg, hb, c1, c2, c3, by simp [World.frozen?, hh]⟩

set_option maxHeartbeats 4000000 in
theorem refAdd_any {base : Nat} {w : World} {v : Value} {l : List Ext} {x : Ext} {k : Nat} (h : OwnExts base w v l) (hl : ∀ y ∈ l, FineE k y) (hk : k ≤ 1000000) (hx : FineE 1 x) (hlen : l.length ≤ 1000000) (hbw : base ≤ w.heap.size) :
    Calls Try.prog 29 #[v, extA x] w fun e w' => ∃ v', e = .returned v' ∧ OwnExts base w' v' (addE l x) ∧ Below base w w' ∧ OnlyT [42] w w' := by
  obtain ⟨xs, xo, xn⟩ := x
  obtain ⟨a, cap, rfl, hc1, hc2, _⟩ := Exts.parts (w := w) (v := v) (l := l) (Slc.of_owns h)
  have HC := Keep.mk h
  have HL := Keep.mk hl
  have HX := Keep.mk hx
  unfold maxLen at hc2
  unfold extA
  clear h hl
  go_enter Try.func29, Try.ntmps29
  go_upto_region 2 with (fail)
  go_cut [44] from 9 to 44 (fun v wx => Jumped (jl l (xs, xo, xn)) (w.alloc (.cells #[.int .i64 xs, .int .i64 xo, .int .i64 xn] 42)) v wx)
  case first =>
    rcases List.eq_nil_or_concat l with rfl | ⟨l', y, rfl⟩
    · go_quiet (fail)
      go_wp2
      go_meet
      exact ⟨rfl, _, rfl⟩
    · rw [List.concat_eq_append] at *
      obtain ⟨g, cap', hv, hc1', hc2', hbg, hgw, c1, c2, c3, hf⟩ := HC.out.last
      obtain ⟨ys, yo, yn⟩ := y
      obtain ⟨y1, y2, y3, y4⟩ := HL.out (ys, yo, yn) (by simp)
      obtain ⟨x1, x2, x3, x4⟩ := HX.out
      simp only [List.length_append, List.length_singleton] at *
      simp only [Value.slice.injEq, true_and] at hv
      obtain ⟨rfl, rfl⟩ := hv
      generalize hm : l'.length = m at *
      have HM := Keep.mk hm
      have hk' : (k : Int) ≤ 1000000 := by omega
      clear hm hf
      by_cases hs : xs = 0
      · have hs' : (xs != 0) = false := by simp [hs]
        have hj : joins (ys, yo, yn) (xs, xo, xn) = false := by simp [joins, hs]
        have HJ := Keep.mk hj
        clear hj hs
        go_quiet (fail)
        go_wp2
        go_meet
        exact ⟨by rw [jl_snoc, HJ.out], _, rfl⟩
      · have hs' : (xs != 0) = true := by simp [hs]
        by_cases hyx : ys = xs
        · have hyx' : (ys == xs) = true := by simp [hyx]
          have hsum : IntKind.i64.wrap (yo + yn) = yo + yn := IntWalk.i64_in _ (by omega)
          have hj : joins (ys, yo, yn) (xs, xo, xn) = (yo + yn == xo) := by
            unfold joins
            simp only [decide_eq_true hs, decide_eq_true hyx, Bool.true_and, ne_eq]
            rw [Bool.eq_iff_iff]; simp
          have HJ := Keep.mk hj
          clear hj hs hyx
          go_quiet (fail)
          go_wp2
          go_meet
          exact ⟨by rw [jl_snoc, HJ.out], _, rfl⟩
        · have hyx' : (ys == xs) = false := by simp [hyx]
          have hj : joins (ys, yo, yn) (xs, xo, xn) = false := by simp [joins, hyx]
          have HJ := Keep.mk hj
          clear hj hs hyx
          go_quiet (fail)
          go_wp2
          go_meet
          exact ⟨by rw [jl_snoc, HJ.out], _, rfl⟩
  case rest =>
    obtain ⟨rfl, nd, rfl⟩ := hcut
    obtain ⟨wa, hwa⟩ : ∃ wa, wa = w.alloc (.cells #[.int .i64 xs, .int .i64 xo, .int .i64 xn] 42) := ⟨_, rfl⟩
    have CA : Keep (OwnExts base (wa.drewN nd) (.slice a l.length cap) l) := ⟨by rw [hwa]; exact World.ownsRow.alloc HC.out _⟩
    have BA : Keep (Below base w (wa.drewN nd) ∧ OnlyT [42] w (wa.drewN nd)) := ⟨below_drewN (by rw [hwa]; exact (Below.refl _ _).alloc hbw _) nd, by rw [hwa]; exact ((OnlyT.refl _ _).alloc _).drewN nd⟩
    have PA : Keep (Arr (wa.drewN nd) w.heap.size 42 [.int .i64 xs, .int .i64 xo, .int .i64 xn]) := ⟨by rw [hwa]; exact (Arr.new w _ _).drewN nd⟩
    rw [← hwa]
    have hp0 := PA.out.cell 0
    have hp1 := PA.out.cell 1
    have hp2 := PA.out.cell 2
    have hPl := PA.out.lt
    simp only [List.getElem?_cons_zero, List.getElem?_cons_succ] at hp0 hp1 hp2
    clear hwa HC
    generalize wa.drewN nd = wd at *
    generalize w.heap.size = P at *
    obtain ⟨i0, hi, hz0, hz1, hz2⟩ := info_parts Try.infoExt
    have hbwd : base ≤ wd.heap.size := by have := PA.out.lt; omega
    by_cases hjl : jl l (xs, xo, xn) = true
    · obtain ⟨l', y, rfl, hj, ha⟩ := addE_yes hjl
      obtain ⟨ys, yo, yn⟩ := y
      obtain ⟨y1, y2, y3, y4⟩ := HL.out (ys, yo, yn) (by simp)
      obtain ⟨x1, x2, x3, x4⟩ := HX.out
      simp only at y1 y2 y3 y4 x1 x2 x3 x4
      have HA := Keep.mk ha
      rw [hjl]
      have hk' : (k : Int) ≤ 1000000 := by omega
      have r0 := Keep.mk (World.ownsRow_made (base := wd.heap.size) (e := 42) (size := 3) wd #[] 0 (Nat.le_refl _) (by decide) rfl)
      have b0 : Below wd.heap.size wd (wd.alloc (.cells #[] 42)) := (Below.refl _ _).alloc (Nat.le_refl _) _
      have S0 := Keep.mk (Slc.below (Slc.of_owns CA.out) b0 (Nat.le_refl _))
      have B0 := Keep.mk b0
      have O0 : Keep (OnlyT [42] w (wd.alloc (.cells #[] 42))) := ⟨BA.out.2.alloc _⟩
      clear b0 hjl hj ha
      go_upto_region 4 with (at_builtin; refine wpList_append_slc rfl _ _ 31 rfl wd.heap.size 42 i0 (.agg #[.int .i64 0, .int .i64 0, .int .i64 0]) 3 24 Try.underlying31 hi hz0 hz1 hz2 rfl (by decide) _ _ _ rfl r0.out _ (l' ++ [(ys, yo, yn)]).length (extCells (l' ++ [(ys, yo, yn)])) rfl S0.out (extCells_one _) (by unfold maxLen; omega) (by omega) (by simp) ?_; intro v2 w2 hown2 hg2 _; have H2 := Keep.mk (And.intro hown2 hg2); clear hown2 hg2)
      have ho2 : OwnExts wd.heap.size w2 v2 (l' ++ [(ys, yo, yn)]) := by have := H2.out.1; rw [Nat.zero_add, List.nil_append] at this; exact this
      have b2 := below_append B0.out (by simp) r0.out (Nat.le_refl _) H2.out.2
      have o2 := OnlyT.grown O0.out r0.out H2.out.2 (by simp)
      have hq0 := (b2.cell (p := ⟨P, 2, none⟩) hPl).trans hp2
      obtain ⟨g, cap', rfl, hc1', hc2', hbg, hgw, c1, c2, c3, hf⟩ := ho2.last
      simp only [List.length_append, List.length_singleton] at *
      have HO := Keep.mk (And.intro ho2 (And.intro b2 o2))
      have HR := Keep.mk (extCells_grow l' (ys, yo, yn) (xs, xo, xn))
      generalize hm : l'.length = m at *
      have HM := Keep.mk hm
      clear ho2 b2 o2 H2 r0 S0 B0 O0 hm hi hz0 hz1 hz2 c1 c2 hp0 hp1 hp2
      unfold maxLen at hc2'
      go_region
      go_wp2
      go_ret
      obtain ⟨hrw, b2, o2⟩ := HO.out
      unfold OwnExts at hrw
      rw [show (l' ++ [(ys, yo, yn)]).length = m + 1 by rw [List.length_append, HM.out]; rfl] at hrw
      obtain ⟨r1, r2⟩ := World.ownsRow.stored hrw (m * 3 + 2) (.int .i64 (yn + xn))
      refine ⟨.slice (some ⟨g, 0, none⟩) (m + 1) cap', rfl, ?_, ?_, ?_⟩
      · rw [HA.out]
        unfold OwnExts
        rw [show (l' ++ [grow (ys, yo, yn) (xs, xo, xn)]).length = m + 1 by rw [List.length_append, HM.out]; rfl, ← HR.out]
        exact ownsRow_base r1.drew hbwd
      · exact ((BA.out.1.trans (b2.mono hbwd)).setCell (p := ⟨g, m * 3 + 2, none⟩) (by show base ≤ g; omega) _).drew
      · exact (OnlyT.grown o2 hrw r2 (by simp)).drew
    · have hjf : jl l (xs, xo, xn) = false := by simpa using hjl
      have HA := Keep.mk (addE_no hjf)
      rw [hjf]
      clear hjl hjf
      go_wp2_with (at_builtin; refine wpList_append_slc rfl _ _ 31 rfl base 42 i0 (.agg #[.int .i64 0, .int .i64 0, .int .i64 0]) 3 24 Try.underlying31 hi hz0 hz1 hz2 rfl (by decide) _ _ _ rfl (World.ownsRow.alloc CA.out _) _ 1 (extV (xs, xo, xn)) rfl (Slc.made (t := 42) (extV (xs, xo, xn)) (by decide) rfl) (by simp [extV, Value.oneCell']) (by unfold maxLen; omega) (by omega) (by simp; omega) ?_; intro v2 w2 hown2 hg2 _; have H2 := Keep.mk (And.intro hown2 hg2); clear hown2 hg2 hi hz0 hz1 hz2)
      go_ret
      refine ⟨_, rfl, ?_, ?_, ?_⟩
      · rw [HA.out]
        unfold OwnExts
        rw [List.length_append, List.length_singleton, extCells_append]
        exact H2.out.1
      · exact (BA.out.1.alloc hbwd _).grown H2.out.2 (by simp; omega) (fun k hk => (World.ownsRow.lt CA.out k hk).1)
      · exact OnlyT.grown (BA.out.2.alloc _) (World.ownsRow.alloc CA.out _) H2.out.2 (by simp)
end Go.Proofs.Ytomlknjpaielgaa
