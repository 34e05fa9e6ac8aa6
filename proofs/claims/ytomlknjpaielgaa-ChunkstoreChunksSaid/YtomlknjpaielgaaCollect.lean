/- The collector of extents: what its function does to the box that it shares. Condition: bounds on the extents. -/
import Derived.Test.YtomlknjpaielgaaStoreMem
import Derived.Deep.QuietTactic
import Derived.BigQuiet
import Derived.BigRegion
import Derived.RegionTactic
import Derived.IntWalk
import Derived.Outline
import Derived.Deep.CutBlock
namespace Go.Proofs.Ytomlknjpaielgaa
set_option maxRecDepth 100000
open Go.RowKit Go.Shelf Go.Proofs.Ytomlknjpaielgaa.Store

def extA (x : Ext) : Value := .agg #[.int .i64 x.1, .int .i64 x.2.1, .int .i64 x.2.2]
/-- What the collector holds: its box, the slice in it, the extents. -/
structure Coll (base B : Nat) (w : World) (v : Value) (l : List Ext) : Prop where
  box : Boxed w B 31 v
  row : w.ownsRow base 42 3 v l.length (extCells l)

theorem Coll.last {base B : Nat} {w : World} {v : Value} {l : List Ext} {y : Ext} (h : Coll base B w v (l ++ [y])) :
    ∃ g cap, v = .slice (some ⟨g, 0, none⟩) (l.length + 1) cap ∧ l.length + 1 ≤ cap ∧ cap ≤ maxLen ∧ base ≤ g ∧ g ≠ B ∧ g < w.heap.size ∧ w.cell? ⟨g, l.length * 3, none⟩ = some (.int .i64 y.1) ∧ w.cell? ⟨g, l.length * 3 + 1, none⟩ = some (.int .i64 y.2.1) ∧
      w.cell? ⟨g, l.length * 3 + 2, none⟩ = some (.int .i64 y.2.2) ∧ w.frozen? ⟨g, l.length * 3 + 2, none⟩ = false := by
  have hr := h.row
  have hx := Exts.parts (w := w) (v := v) (l := l ++ [y]) (Slc.of_owns hr)
  rw [List.length_append, List.length_singleton] at hr hx
  obtain ⟨a, cap, hv, h1, h2, h3⟩ := hx
  obtain ⟨b, o, rfl, hb, c1, c2, c3⟩ := h3 l.length y (by simp)
  rcases hr.2 with ⟨_, h0⟩ | ⟨g, cap', cur, hv', hg, hh, hn, hm, hs, ht⟩
  · omega
  · rw [hv] at hv'
    simp only [Value.slice.injEq, Option.some.injEq, Addr.mk.injEq, true_and, and_true] at hv'
    obtain ⟨⟨rfl, rfl⟩, rfl⟩ := hv'
    rw [Nat.zero_add] at c1 c2 c3
    refine ⟨b, cap, hv, h1, h2, hg, fun e => ?_, hb, c1, c2, c3, by simp [World.frozen?, hh]⟩
    subst e
    have := h.box
    unfold Boxed at this
    rw [hh] at this
    simp only [Option.some.injEq, Obj.cells.injEq] at this
    exact absurd this.2.1 (by decide)

theorem extCells_grow (l : List Ext) (y x : Ext) : (extCells (l ++ [y])).set (l.length * 3 + 2) (.int .i64 (y.2.2 + x.2.2)) = extCells (l ++ [grow y x]) := by
  rw [extCells_append, extCells_append, List.set_append, if_neg (by rw [extCells_length]; omega), extCells_length, show l.length * 3 + 2 - l.length * 3 = 2 by omega]
  rfl
/-- Does x go on where l ends? -/
def jl (l : List Ext) (x : Ext) : Bool := match l.getLast? with | none => false | some y => joins y x
theorem jl_snoc (l : List Ext) (y x : Ext) : jl (l ++ [y]) x = joins y x := by simp [jl]
theorem addE_no {l : List Ext} {x : Ext} (h : jl l x = false) : addE l x = l ++ [x] := by
  rcases List.eq_nil_or_concat l with rfl | ⟨l', y, rfl⟩
  · rfl
  · rw [List.concat_eq_append] at *
    rw [jl_snoc] at h
    rw [addE_snoc, h]; rfl
theorem addE_yes {l : List Ext} {x : Ext} (h : jl l x = true) : ∃ l' y, l = l' ++ [y] ∧ joins y x = true ∧ addE l x = l' ++ [grow y x] := by
  rcases List.eq_nil_or_concat l with rfl | ⟨l', y, rfl⟩
  · cases h
  · rw [List.concat_eq_append] at *
    rw [jl_snoc] at h
    exact ⟨l', y, rfl, h, by rw [addE_snoc, h]; rfl⟩
def Jumped (b : Bool) (wa : World) (v : Value) (wx : World) : Prop := v = .bool b ∧ ∃ n, wx = wa.drewN n
theorem Slc.made {w : World} {size n : Nat} {t : TypeId} (cs : List Value) (hn : n ≤ maxLen) (hl : cs.length = n * size) : Slc (w.alloc (.cells cs.toArray t)) size (.slice (some ⟨w.heap.size, 0, none⟩) n n) n cs := by
  refine ⟨_, _, rfl, Nat.le_refl _, hn, hl, .inr ⟨w.heap.size, 0, rfl, by simp, fun j u hu => ?_⟩⟩
  have := (Arr.new w t cs).cell j
  rw [Nat.zero_add]
  exact this.trans hu

set_option maxHeartbeats 4000000 in
theorem collect_any {base B : Nat} {w : World} {v : Value} {l : List Ext} {x : Ext} {k : Nat} (h : Coll base B w v l) (hl : ∀ y ∈ l, FineE k y) (hk : k ≤ 1000000) (hx : FineE 1 x) (hlen : l.length ≤ 1000000) (hbB : base ≤ B) (hbw : base ≤ w.heap.size) :
    Calls Try.prog 41 #[extA x, .pointer (some ⟨B, 0, none⟩)] w fun e w' => ∃ v', e = .returned (.tuple #[]) ∧ Coll base B w' v' (addE l x) ∧ Below base w w' ∧ OnlyT [42, 31] w w' := by
  obtain ⟨xs, xo, xn⟩ := x
  have hcB := h.box.cell
  have hltB := h.box.lt
  obtain ⟨a, cap, rfl, hc1, hc2, _⟩ := Exts.parts (w := w) (v := v) (l := l) (Slc.of_owns h.row)
  have HC := Keep.mk h
  have HL := Keep.mk hl
  have HX := Keep.mk hx
  unfold maxLen at hc2
  unfold extA
  clear h hl
  go_enter Try.func41, Try.ntmps41
  go_upto_region 2 with (fail)
  have hfrB : (w.alloc (.cells #[.int .i64 xs, .int .i64 xo, .int .i64 xn] 42)).frozen? ⟨B, 0, none⟩ = false := (HC.out.box.alloc _).frozen
  go_cut [39] from 7 to 39 (fun v wx => Jumped (jl l (xs, xo, xn)) (w.alloc (.cells #[.int .i64 xs, .int .i64 xo, .int .i64 xn] 42)) v wx)
  case first =>
    rcases List.eq_nil_or_concat l with rfl | ⟨l', y, rfl⟩
    · go_quiet (fail)
      go_wp2
      go_meet
      exact ⟨rfl, _, rfl⟩
    · rw [List.concat_eq_append] at *
      obtain ⟨g, cap', hv, hc1', hc2', hbg, hgB, hgw, c1, c2, c3, hf⟩ := HC.out.last
      obtain ⟨ys, yo, yn⟩ := y
      obtain ⟨y1, y2, y3, y4⟩ := HL.out (ys, yo, yn) (by simp)
      obtain ⟨x1, x2, x3, x4⟩ := HX.out
      simp only [List.length_append, List.length_singleton] at *
      simp only [Value.slice.injEq, true_and] at hv
      obtain ⟨rfl, rfl⟩ := hv
      generalize hm : l'.length = m at *
      have HM := Keep.mk hm
      have hk' : (k : Int) ≤ 1000000 := by omega
      clear hm hf
      by_cases hs : xs = 0
      · have hs' : (xs != 0) = false := by simp [hs]
        have hj : joins (ys, yo, yn) (xs, xo, xn) = false := by simp [joins, hs]
        have HJ := Keep.mk hj
        clear hj hs
        go_quiet (fail)
        go_wp2
        go_meet
        exact ⟨by rw [jl_snoc, HJ.out], _, rfl⟩
      · have hs' : (xs != 0) = true := by simp [hs]
        by_cases hyx : ys = xs
        · have hyx' : (ys == xs) = true := by simp [hyx]
          have hsum : IntKind.i64.wrap (yo + yn) = yo + yn := IntWalk.i64_in _ (by omega)
          have hj : joins (ys, yo, yn) (xs, xo, xn) = (yo + yn == xo) := by
            unfold joins
            simp only [decide_eq_true hs, decide_eq_true hyx, Bool.true_and, ne_eq]
            rw [Bool.eq_iff_iff]; simp
          have HJ := Keep.mk hj
          clear hj hs hyx
          go_quiet (fail)
          go_wp2
          go_meet
          exact ⟨by rw [jl_snoc, HJ.out], _, rfl⟩
        · have hyx' : (ys == xs) = false := by simp [hyx]
          have hj : joins (ys, yo, yn) (xs, xo, xn) = false := by simp [joins, hyx]
          have HJ := Keep.mk hj
          clear hj hs hyx
          go_quiet (fail)
          go_wp2
          go_meet
          exact ⟨by rw [jl_snoc, HJ.out], _, rfl⟩
  case rest =>
    obtain ⟨rfl, nd, rfl⟩ := hcut
    obtain ⟨wa, hwa⟩ : ∃ wa, wa = w.alloc (.cells #[.int .i64 xs, .int .i64 xo, .int .i64 xn] 42) := ⟨_, rfl⟩
    have CA : Keep (Coll base B (wa.drewN nd) (.slice a l.length cap) l) := ⟨⟨by rw [hwa]; exact HC.out.box.alloc _, by rw [hwa]; exact World.ownsRow.alloc HC.out.row _⟩⟩
    have BA : Keep (Below base w (wa.drewN nd) ∧ OnlyT [42, 31] w (wa.drewN nd)) := ⟨below_drewN (by rw [hwa]; exact (Below.refl _ _).alloc hbw _) nd, by rw [hwa]; exact ((OnlyT.refl _ _).alloc _).drewN nd⟩
    have PA : Keep (Arr (wa.drewN nd) w.heap.size 42 [.int .i64 xs, .int .i64 xo, .int .i64 xn]) := ⟨by rw [hwa]; exact (Arr.new w _ _).drewN nd⟩
    rw [← hwa]
    have hp0 := PA.out.cell 0
    have hp1 := PA.out.cell 1
    have hp2 := PA.out.cell 2
    have hcB' := CA.out.box.cell
    have hfB' := CA.out.box.frozen
    have hPl := PA.out.lt
    simp only [List.getElem?_cons_zero, List.getElem?_cons_succ] at hp0 hp1 hp2
    clear hwa hcB hfrB HC
    generalize wa.drewN nd = wd at *
    generalize w.heap.size = P at *
    by_cases hjl : jl l (xs, xo, xn) = true
    · obtain ⟨l', y, rfl, hj, ha⟩ := addE_yes hjl
      obtain ⟨g, cap', hv, hc1', hc2', hbg, hgB, hgw, c1, c2, c3, hf⟩ := CA.out.last
      obtain ⟨ys, yo, yn⟩ := y
      obtain ⟨y1, y2, y3, y4⟩ := HL.out (ys, yo, yn) (by simp)
      obtain ⟨x1, x2, x3, x4⟩ := HX.out
      simp only at c1 c2 c3 y1 y2 y3 y4 x1 x2 x3 x4
      have HA := Keep.mk ha
      rw [hjl]
      simp only [List.length_append, List.length_singleton] at *
      simp only [Value.slice.injEq, true_and] at hv
      obtain ⟨rfl, rfl⟩ := hv
      generalize hm : l'.length = m at *
      have HM := Keep.mk hm
      have hk' : (k : Int) ≤ 1000000 := by omega
      clear hm hjl hj ha
      unfold maxLen at hc2'
      go_wp2_with fail
      go_region
      go_wp2
      (try simp only [Exit.inBlock, Exit.then])
      refine bodyPost_ret (results_none rfl _ _ _) rfl ?_
      have hbx := CA.out.box
      have hrw := CA.out.row
      have hset := extCells_grow l' (ys, yo, yn) (xs, xo, xn)
      rw [HM.out] at hset
      rw [show (l' ++ [(ys, yo, yn)]).length = m + 1 by rw [List.length_append, HM.out]; rfl] at hrw
      obtain ⟨r1, r2⟩ := World.ownsRow.stored hrw (m * 3 + 2) (.int .i64 (yn + xn))
      rw [hset] at r1
      refine ⟨.slice (some ⟨g, 0, none⟩) (m + 1) cap, rfl, ⟨?_, ?_⟩, ?_, ?_⟩
      · exact (Below.heap_setCell wd ⟨g, m * 3 + 2, none⟩ _ B (fun e => hgB e.symm)).trans hbx
      · rw [HA.out, show (l' ++ [grow (ys, yo, yn) (xs, xo, xn)]).length = m + 1 by rw [List.length_append, HM.out]; rfl]
        exact r1.drew
      · exact (BA.out.1.setCell (p := ⟨g, m * 3 + 2, none⟩) hbg _).drew
      · exact (BA.out.2.grown hrw r2 (by simp)).drew
    · have hjf : jl l (xs, xo, xn) = false := by simpa using hjl
      have HA := Keep.mk (addE_no hjf)
      rw [hjf]
      clear hjl hjf
      obtain ⟨i0, hi, hz0, hz1, hz2⟩ := info_parts Try.infoExt
      have hbd := BA.out.1.size
      have hbwd : base ≤ wd.heap.size := by omega
      go_wp2_with (at_builtin; refine wpList_append_slc rfl _ _ 31 rfl base 42 i0 (.agg #[.int .i64 0, .int .i64 0, .int .i64 0]) 3 24 Try.underlying31 hi hz0 hz1 hz2 rfl (by decide) _ _ _ rfl (CA.out.row.alloc _) _ 1 (extV (xs, xo, xn)) rfl (Slc.made (t := 42) (extV (xs, xo, xn)) (by decide) rfl) (by simp [extV, Value.oneCell']) (by unfold maxLen; omega) (by omega) (by simp; omega) ?_; intro v2 w2 hown2 hg2 _; have H2 := Keep.mk (And.intro hown2 hg2); obtain ⟨g2, cap2, rfl⟩ := ownsRow_succ hown2; have hbx2 := (CA.out.box.alloc (.cells #[.int .i64 xs, .int .i64 xo, .int .i64 xn] 42)).kept hg2 (CA.out.box.not_row (by decide) CA.out.row); have hcB2 := hbx2.cell; have hfB2 := hbx2.frozen; have HB2 := Keep.mk hbx2; clear hown2 hg2 hi hz0 hz1 hz2 hbx2)
      go_end0
      refine ⟨.slice (some ⟨g2, 0, none⟩) (l.length + 1) cap2, rfl, ⟨HB2.out.set _, ?_⟩, ?_, ?_⟩
      · rw [HA.out, List.length_append, List.length_singleton, extCells_append]
        have := H2.out.1
        exact OnlyT.row (OnlyT.setCell (OnlyT.refl [31] _) (a := ⟨B, 0, none⟩) HB2.out (by simp) _) this (by decide)
      · exact ((BA.out.1.alloc hbwd _).grown H2.out.2 (by simp; omega) (fun k hk => (World.ownsRow.lt CA.out.row k hk).1)).setCell (p := ⟨B, 0, none⟩) hbB _
      · exact OnlyT.setCell (OnlyT.grown (BA.out.2.alloc _) (World.ownsRow.alloc CA.out.row _) H2.out.2 (by simp)) (a := ⟨B, 0, none⟩) HB2.out (by simp) _
end Go.Proofs.Ytomlknjpaielgaa
