/- The reference's mixing of four words: a new vector. Condition: four different places of sixteen. -/
import Derived.Test.YtomlknjpaielgaaB2Comp
namespace Go.Proofs.Ytomlknjpaielgaa
set_option maxRecDepth 100000
open Go.RowKit Go.Shelf Go.Proofs.Ytomlknjpaielgaa.B2

/-- A block of sixteen words of which four are known. -/
structure Q4 (w : World) (g : Nat) (v : List W) (a b c d : Nat) (va vb vc vd : W) : Prop where
  arr : Arr w g 99 (wvs v)
  len : v.length = 16
  ea : v.getD a 0 = va
  eb : v.getD b 0 = vb
  ec : v.getD c 0 = vc
  ed : v.getD d 0 = vd
theorem getD_set_same {l : List W} {i : Nat} (h : i < l.length) (x : W) : (l.set i x).getD i 0 = x := by simp [List.getD_eq_getElem?_getD, h]
theorem getD_set_other {l : List W} {i j : Nat} (h : i ≠ j) (x : W) : (l.set i x).getD j 0 = l.getD j 0 := by simp [List.getD_eq_getElem?_getD, List.getElem?_set_ne h]
section
variable {w : World} {g : Nat} {v : List W} {a b c d : Nat} {va vb vc vd : W}
theorem Q4.drew (q : Q4 w g v a b c d va vb vc vd) : Q4 w.drew g v a b c d va vb vc vd := ⟨q.arr.drew, q.len, q.ea, q.eb, q.ec, q.ed⟩
theorem Q4.setA (q : Q4 w g v a b c d va vb vc vd) (h : Four a b c d) (x : W) : Q4 (w.setCell ⟨g, a, none⟩ (.int .u32 (W32 x))) g (v.set a x) a b c d x vb vc vd :=
  ⟨q.arr.setW a x, by simp [q.len], getD_set_same (by rw [q.len]; exact h.la) x, by rw [getD_set_other h.ab, q.eb], by rw [getD_set_other h.ac, q.ec], by rw [getD_set_other h.ad, q.ed]⟩
theorem Q4.setB (q : Q4 w g v a b c d va vb vc vd) (h : Four a b c d) (x : W) : Q4 (w.setCell ⟨g, b, none⟩ (.int .u32 (W32 x))) g (v.set b x) a b c d va x vc vd :=
  ⟨q.arr.setW b x, by simp [q.len], by rw [getD_set_other (Ne.symm h.ab), q.ea], getD_set_same (by rw [q.len]; exact h.lb) x, by rw [getD_set_other h.bc, q.ec], by rw [getD_set_other h.bd, q.ed]⟩
theorem Q4.setC (q : Q4 w g v a b c d va vb vc vd) (h : Four a b c d) (x : W) : Q4 (w.setCell ⟨g, c, none⟩ (.int .u32 (W32 x))) g (v.set c x) a b c d va vb x vd :=
  ⟨q.arr.setW c x, by simp [q.len], by rw [getD_set_other (Ne.symm h.ac), q.ea], by rw [getD_set_other (Ne.symm h.bc), q.eb], getD_set_same (by rw [q.len]; exact h.lc) x, by rw [getD_set_other h.cd, q.ed]⟩
theorem Q4.setD (q : Q4 w g v a b c d va vb vc vd) (h : Four a b c d) (x : W) : Q4 (w.setCell ⟨g, d, none⟩ (.int .u32 (W32 x))) g (v.set d x) a b c d va vb vc x :=
  ⟨q.arr.setW d x, by simp [q.len], by rw [getD_set_other (Ne.symm h.ad), q.ea], by rw [getD_set_other (Ne.symm h.bd), q.eb], by rw [getD_set_other (Ne.symm h.cd), q.ec], getD_set_same (by rw [q.len]; exact h.ld) x⟩
theorem Q4.cells (q : Q4 w g v a b c d va vb vc vd) (h : Four a b c d) :
    w.cell? ⟨g, a, none⟩ = some (.int .u32 (W32 va)) ∧ w.cell? ⟨g, b, none⟩ = some (.int .u32 (W32 vb)) ∧ w.cell? ⟨g, c, none⟩ = some (.int .u32 (W32 vc)) ∧ w.cell? ⟨g, d, none⟩ = some (.int .u32 (W32 vd)) :=
  ⟨by rw [q.arr.word (by rw [q.len]; exact h.la), q.ea], by rw [q.arr.word (by rw [q.len]; exact h.lb), q.eb], by rw [q.arr.word (by rw [q.len]; exact h.lc), q.ec], by rw [q.arr.word (by rw [q.len]; exact h.ld), q.ed]⟩
end
theorem mix_order {l : List W} {a b c d : Nat} (h : Four a b c d) (a1 d1 c1 b1 a2 d2 c2 b2 : W) :
    (((((((l.set a a1).set d d1).set c c1).set b b1).set a a2).set d d2).set c c2).set b b2 = (((l.set a a2).set b b2).set c c2).set d d2 := by
  have h1 := h.ab
  have h2 := h.ac
  have h3 := h.ad
  have h4 := h.bc
  have h5 := h.bd
  have h6 := h.cd
  apply List.ext_getElem?
  intro i
  simp only [List.getElem?_set, List.length_set]
  by_cases e1 : a = i
  · subst e1; simp [Ne.symm h1, Ne.symm h2, Ne.symm h3]
  · by_cases e2 : b = i
    · subst e2; simp [Ne.symm h4, Ne.symm h5]
    · by_cases e3 : c = i
      · subst e3; simp [e2, Ne.symm h6]
      · by_cases e4 : d = i
        · subst e4; simp [e2, e3]
        · simp [e1, e2, e3, e4]
theorem rotate_still (n : Int) (x : W) (r : Nat) (m : Int) (hn : n = W32 x) (hm : m = r) (hr : r ≤ 32) (w : World) : Calls Try.prog 72 #[.int .u32 n, .int .u64 m] w fun e w' => e = .returned (.int .u32 (W32 (rotr x r))) ∧ w' = w := by
  subst hn; subst hm; exact (rotate_any x r hr w).mono fun e w' h => ⟨h.1, h.2.symm⟩

set_option maxRecDepth 100000 in
set_option maxHeartbeats 8000000 in
theorem refMix_any (v : List W) (hv : v.length = 16) (a b c d : Nat) (h4 : Four a b c d) (x y : W) (w : World) :
    Calls Try.prog 68 #[.agg (wvs v).toArray, .int .i64 a, .int .i64 b, .int .i64 c, .int .i64 d, .int .u32 (W32 x), .int .u32 (W32 y)] w fun e w' =>
      e = .returned (.agg (wvs (mixV v a b c d x y)).toArray) ∧ Below w.heap.size w w' := by
  have i1 : (0 : Int) ≤ a := by omega
  have i2 : (0 : Int) ≤ b := by omega
  have i3 : (0 : Int) ≤ c := by omega
  have i4 : (0 : Int) ≤ d := by omega
  have j1 : (a : Int) < 16 := by have := h4.la; omega
  have j2 : (b : Int) < 16 := by have := h4.lb; omega
  have j3 : (c : Int) < 16 := by have := h4.lc; omega
  have j4 : (d : Int) < 16 := by have := h4.ld; omega
  have H4 := Keep.mk h4
  have hq : Q4 ((w.alloc (.cells (wvs v).toArray 99)).alloc (.cells #[.int .u32 0, .int .u32 0, .int .u32 0, .int .u32 0, .int .u32 0, .int .u32 0, .int .u32 0, .int .u32 0, .int .u32 0, .int .u32 0, .int .u32 0, .int .u32 0, .int .u32 0, .int .u32 0, .int .u32 0, .int .u32 0] 99)) w.heap.size v a b c d (v.getD a 0) (v.getD b 0) (v.getD c 0) (v.getD d 0) := ⟨(Arr.new w _ (wvs v)).alloc _, hv, rfl, rfl, rfl, rfl⟩
  have hr : Arr ((w.alloc (.cells (wvs v).toArray 99)).alloc (.cells #[.int .u32 0, .int .u32 0, .int .u32 0, .int .u32 0, .int .u32 0, .int .u32 0, .int .u32 0, .int .u32 0, .int .u32 0, .int .u32 0, .int .u32 0, .int .u32 0, .int .u32 0, .int .u32 0, .int .u32 0, .int .u32 0] 99)) (w.heap.size + 1) 99 (wvs (zeros 16)) := by
    have := Arr.new (w.alloc (.cells (wvs v).toArray 99)) 99 (wvs (zeros 16))
    rw [World.size_alloc] at this
    exact this
  have hb : Below w.heap.size w ((w.alloc (.cells (wvs v).toArray 99)).alloc (.cells #[.int .u32 0, .int .u32 0, .int .u32 0, .int .u32 0, .int .u32 0, .int .u32 0, .int .u32 0, .int .u32 0, .int .u32 0, .int .u32 0, .int .u32 0, .int .u32 0, .int .u32 0, .int .u32 0, .int .u32 0, .int .u32 0] 99)) := ((Below.refl _ _).alloc (Nat.le_refl _) _).alloc (by simp) _
  have HM : Keep (∀ a1 d1 c1 b1 a2 d2 c2 b2, a1 = v.getD a 0 + (v.getD b 0 + x) → d1 = rotr (v.getD d 0 ^^^ a1) 16 → c1 = v.getD c 0 + d1 → b1 = rotr (v.getD b 0 ^^^ c1) 12 → a2 = a1 + (b1 + y) → d2 = rotr (d1 ^^^ a2) 8 → c2 = c1 + d2 → b2 = rotr (b1 ^^^ c2) 7 →
      (((((((v.set a a1).set d d1).set c c1).set b b1).set a a2).set d d2).set c c2).set b b2 = mixV v a b c d x y) := ⟨by
    intro a1 d1 c1 b1 a2 d2 c2 b2 e1 e2 e3 e4 e5 e6 e7 e8
    rw [mix_order h4]
    subst e1; subst e2; subst e3; subst e4; subst e5; subst e6; subst e7; subst e8
    rfl⟩
  generalize v.getD a 0 = va at *
  generalize v.getD b 0 = vb at *
  generalize v.getD c 0 = vc at *
  generalize v.getD d 0 = vd at *
  have hadd := addm_W32
  have hxor := xor_W32
  have Q0 := Keep.mk (And.intro hq (And.intro hr hb))
  clear hq hr hb h4
  have ec := Q0.out.1.cells H4.out
  obtain ⟨ca, cb, cc, cd⟩ := ec
  have fa := Q0.out.1.arr.frozen a
  have fb := Q0.out.1.arr.frozen b
  have fc := Q0.out.1.arr.frozen c
  have fd := Q0.out.1.arr.frozen d
  go_enter Try.func68, Try.ntmps68
  go_wp2_with fail
  generalize (w.alloc (.cells (wvs v).toArray 99)).alloc (.cells #[.int .u32 0, .int .u32 0, .int .u32 0, .int .u32 0, .int .u32 0, .int .u32 0, .int .u32 0, .int .u32 0, .int .u32 0, .int .u32 0, .int .u32 0, .int .u32 0, .int .u32 0, .int .u32 0, .int .u32 0, .int .u32 0] 99) = w0 at *
  refine wp_region_still_tail 11 (by kernel_rfl) (by kernel_rfl) ?_
  simp only [List.take_succ_cons, List.take_zero, List.drop_succ_cons, List.drop_zero]
  repeat (first | still_step)
  refine wpStill_nil ?_
  change wpList _ _ _ _ _ w0.drew
  have P0 := Keep.mk (And.intro (Q0.out.1.drew.setA H4.out (va + vb + x)) (And.intro (Q0.out.2.1.drew.other (p := ⟨w.heap.size, a, none⟩) (by simp) (.int .u32 (W32 (va + vb + x)))) (Q0.out.2.2.drew.setCell (p := ⟨w.heap.size, a, none⟩) (Nat.le_refl _) (.int .u32 (W32 (va + vb + x))))))
  have fa' : w0.drew.frozen? ⟨w.heap.size, a, none⟩ = false := fa
  have ca' : w0.drew.cell? ⟨w.heap.size, a, none⟩ = some (.int .u32 (W32 va)) := ca
  have E0 := Keep.mk (rfl : va + vb + x = va + vb + x)
  generalize hw : w0.drew = wd at *
  clear ca cb cc cd fa fb fc fd Q0 hw
  go_wp2_with fail
  generalize wd.setCell ⟨w.heap.size, a, none⟩ (.int .u32 (W32 (va + vb + x))) = w1 at *
  clear fa' ca'
  clear wd
  obtain ⟨a1, ha1⟩ : ∃ z, z = va + vb + x := ⟨_, rfl⟩
  have N0 := Keep.mk ha1
  rw [← ha1] at P0
  obtain ⟨Q1⟩ := P0
  have Q1 := Keep.mk Q1
  clear ha1 E0
  obtain ⟨ca, cb, cc, cd⟩ := Q1.out.1.cells H4.out
  have fa := Q1.out.1.arr.frozen a
  have fb := Q1.out.1.arr.frozen b
  have fc := Q1.out.1.arr.frozen c
  have fd := Q1.out.1.arr.frozen d
  refine wp_region_still_tail 10 (by kernel_rfl) (by kernel_rfl) ?_
  simp only [List.take_succ_cons, List.take_zero, List.drop_succ_cons, List.drop_zero]
  repeat (first | still_step | still_call (rotate_still _ (vd ^^^ a1) 16 _ rfl rfl (by decide) _))
  refine wpStill_nil ?_
  change wpList _ _ _ _ _ w1.drew
  have P1 := Keep.mk (And.intro (Q1.out.1.drew.setD H4.out (rotr (vd ^^^ a1) 16)) (And.intro (Q1.out.2.1.drew.other (p := ⟨w.heap.size, d, none⟩) (by simp) (.int .u32 (W32 (rotr (vd ^^^ a1) 16)))) (Q1.out.2.2.drew.setCell (p := ⟨w.heap.size, d, none⟩) (Nat.le_refl _) (.int .u32 (W32 (rotr (vd ^^^ a1) 16))))))
  have fd' : w1.drew.frozen? ⟨w.heap.size, d, none⟩ = false := fd
  have cd' : w1.drew.cell? ⟨w.heap.size, d, none⟩ = some (.int .u32 (W32 vd)) := cd
  have E1 := Keep.mk (rfl : rotr (vd ^^^ a1) 16 = rotr (vd ^^^ a1) 16)
  generalize hw : w1.drew = wd at *
  clear ca cb cc cd fa fb fc fd Q1 hw
  go_wp2_with fail
  generalize wd.setCell ⟨w.heap.size, d, none⟩ (.int .u32 (W32 (rotr (vd ^^^ a1) 16))) = w2 at *
  clear fd' cd'
  clear wd
  obtain ⟨d1, hd1⟩ : ∃ z, z = rotr (vd ^^^ a1) 16 := ⟨_, rfl⟩
  have N1 := Keep.mk hd1
  rw [← hd1] at P1
  obtain ⟨Q2⟩ := P1
  have Q2 := Keep.mk Q2
  clear hd1 E1
  obtain ⟨ca, cb, cc, cd⟩ := Q2.out.1.cells H4.out
  have fa := Q2.out.1.arr.frozen a
  have fb := Q2.out.1.arr.frozen b
  have fc := Q2.out.1.arr.frozen c
  have fd := Q2.out.1.arr.frozen d
  refine wp_region_still_tail 9 (by kernel_rfl) (by kernel_rfl) ?_
  simp only [List.take_succ_cons, List.take_zero, List.drop_succ_cons, List.drop_zero]
  repeat (first | still_step)
  refine wpStill_nil ?_
  change wpList _ _ _ _ _ w2.drew
  have P2 := Keep.mk (And.intro (Q2.out.1.drew.setC H4.out (vc + d1)) (And.intro (Q2.out.2.1.drew.other (p := ⟨w.heap.size, c, none⟩) (by simp) (.int .u32 (W32 (vc + d1)))) (Q2.out.2.2.drew.setCell (p := ⟨w.heap.size, c, none⟩) (Nat.le_refl _) (.int .u32 (W32 (vc + d1))))))
  have fc' : w2.drew.frozen? ⟨w.heap.size, c, none⟩ = false := fc
  have cc' : w2.drew.cell? ⟨w.heap.size, c, none⟩ = some (.int .u32 (W32 vc)) := cc
  have E2 := Keep.mk (rfl : vc + d1 = vc + d1)
  generalize hw : w2.drew = wd at *
  clear ca cb cc cd fa fb fc fd Q2 hw
  go_wp2_with fail
  generalize wd.setCell ⟨w.heap.size, c, none⟩ (.int .u32 (W32 (vc + d1))) = w3 at *
  clear fc' cc'
  clear wd
  obtain ⟨c1, hc1⟩ : ∃ z, z = vc + d1 := ⟨_, rfl⟩
  have N2 := Keep.mk hc1
  rw [← hc1] at P2
  obtain ⟨Q3⟩ := P2
  have Q3 := Keep.mk Q3
  clear hc1 E2
  obtain ⟨ca, cb, cc, cd⟩ := Q3.out.1.cells H4.out
  have fa := Q3.out.1.arr.frozen a
  have fb := Q3.out.1.arr.frozen b
  have fc := Q3.out.1.arr.frozen c
  have fd := Q3.out.1.arr.frozen d
  refine wp_region_still_tail 10 (by kernel_rfl) (by kernel_rfl) ?_
  simp only [List.take_succ_cons, List.take_zero, List.drop_succ_cons, List.drop_zero]
  repeat (first | still_step | still_call (rotate_still _ (vb ^^^ c1) 12 _ rfl rfl (by decide) _))
  refine wpStill_nil ?_
  change wpList _ _ _ _ _ w3.drew
  have P3 := Keep.mk (And.intro (Q3.out.1.drew.setB H4.out (rotr (vb ^^^ c1) 12)) (And.intro (Q3.out.2.1.drew.other (p := ⟨w.heap.size, b, none⟩) (by simp) (.int .u32 (W32 (rotr (vb ^^^ c1) 12)))) (Q3.out.2.2.drew.setCell (p := ⟨w.heap.size, b, none⟩) (Nat.le_refl _) (.int .u32 (W32 (rotr (vb ^^^ c1) 12))))))
  have fb' : w3.drew.frozen? ⟨w.heap.size, b, none⟩ = false := fb
  have cb' : w3.drew.cell? ⟨w.heap.size, b, none⟩ = some (.int .u32 (W32 vb)) := cb
  have E3 := Keep.mk (rfl : rotr (vb ^^^ c1) 12 = rotr (vb ^^^ c1) 12)
  generalize hw : w3.drew = wd at *
  clear ca cb cc cd fa fb fc fd Q3 hw
  go_wp2_with fail
  generalize wd.setCell ⟨w.heap.size, b, none⟩ (.int .u32 (W32 (rotr (vb ^^^ c1) 12))) = w4 at *
  clear fb' cb'
  clear wd
  obtain ⟨b1, hb1⟩ : ∃ z, z = rotr (vb ^^^ c1) 12 := ⟨_, rfl⟩
  have N3 := Keep.mk hb1
  rw [← hb1] at P3
  obtain ⟨Q4⟩ := P3
  have Q4 := Keep.mk Q4
  clear hb1 E3
  obtain ⟨ca, cb, cc, cd⟩ := Q4.out.1.cells H4.out
  have fa := Q4.out.1.arr.frozen a
  have fb := Q4.out.1.arr.frozen b
  have fc := Q4.out.1.arr.frozen c
  have fd := Q4.out.1.arr.frozen d
  refine wp_region_still_tail 11 (by kernel_rfl) (by kernel_rfl) ?_
  simp only [List.take_succ_cons, List.take_zero, List.drop_succ_cons, List.drop_zero]
  repeat (first | still_step)
  refine wpStill_nil ?_
  change wpList _ _ _ _ _ w4.drew
  have P4 := Keep.mk (And.intro (Q4.out.1.drew.setA H4.out (a1 + b1 + y)) (And.intro (Q4.out.2.1.drew.other (p := ⟨w.heap.size, a, none⟩) (by simp) (.int .u32 (W32 (a1 + b1 + y)))) (Q4.out.2.2.drew.setCell (p := ⟨w.heap.size, a, none⟩) (Nat.le_refl _) (.int .u32 (W32 (a1 + b1 + y))))))
  have fa' : w4.drew.frozen? ⟨w.heap.size, a, none⟩ = false := fa
  have ca' : w4.drew.cell? ⟨w.heap.size, a, none⟩ = some (.int .u32 (W32 a1)) := ca
  have E4 := Keep.mk (rfl : a1 + b1 + y = a1 + b1 + y)
  generalize hw : w4.drew = wd at *
  clear ca cb cc cd fa fb fc fd Q4 hw
  go_wp2_with fail
  generalize wd.setCell ⟨w.heap.size, a, none⟩ (.int .u32 (W32 (a1 + b1 + y))) = w5 at *
  clear fa' ca'
  clear wd
  obtain ⟨a2, ha2⟩ : ∃ z, z = a1 + b1 + y := ⟨_, rfl⟩
  have N4 := Keep.mk ha2
  rw [← ha2] at P4
  obtain ⟨Q5⟩ := P4
  have Q5 := Keep.mk Q5
  clear ha2 E4
  obtain ⟨ca, cb, cc, cd⟩ := Q5.out.1.cells H4.out
  have fa := Q5.out.1.arr.frozen a
  have fb := Q5.out.1.arr.frozen b
  have fc := Q5.out.1.arr.frozen c
  have fd := Q5.out.1.arr.frozen d
  refine wp_region_still_tail 10 (by kernel_rfl) (by kernel_rfl) ?_
  simp only [List.take_succ_cons, List.take_zero, List.drop_succ_cons, List.drop_zero]
  repeat (first | still_step | still_call (rotate_still _ (d1 ^^^ a2) 8 _ rfl rfl (by decide) _))
  refine wpStill_nil ?_
  change wpList _ _ _ _ _ w5.drew
  have P5 := Keep.mk (And.intro (Q5.out.1.drew.setD H4.out (rotr (d1 ^^^ a2) 8)) (And.intro (Q5.out.2.1.drew.other (p := ⟨w.heap.size, d, none⟩) (by simp) (.int .u32 (W32 (rotr (d1 ^^^ a2) 8)))) (Q5.out.2.2.drew.setCell (p := ⟨w.heap.size, d, none⟩) (Nat.le_refl _) (.int .u32 (W32 (rotr (d1 ^^^ a2) 8))))))
  have fd' : w5.drew.frozen? ⟨w.heap.size, d, none⟩ = false := fd
  have cd' : w5.drew.cell? ⟨w.heap.size, d, none⟩ = some (.int .u32 (W32 d1)) := cd
  have E5 := Keep.mk (rfl : rotr (d1 ^^^ a2) 8 = rotr (d1 ^^^ a2) 8)
  generalize hw : w5.drew = wd at *
  clear ca cb cc cd fa fb fc fd Q5 hw
  go_wp2_with fail
  generalize wd.setCell ⟨w.heap.size, d, none⟩ (.int .u32 (W32 (rotr (d1 ^^^ a2) 8))) = w6 at *
  clear fd' cd'
  clear wd
  obtain ⟨d2, hd2⟩ : ∃ z, z = rotr (d1 ^^^ a2) 8 := ⟨_, rfl⟩
  have N5 := Keep.mk hd2
  rw [← hd2] at P5
  obtain ⟨Q6⟩ := P5
  have Q6 := Keep.mk Q6
  clear hd2 E5
  obtain ⟨ca, cb, cc, cd⟩ := Q6.out.1.cells H4.out
  have fa := Q6.out.1.arr.frozen a
  have fb := Q6.out.1.arr.frozen b
  have fc := Q6.out.1.arr.frozen c
  have fd := Q6.out.1.arr.frozen d
  refine wp_region_still_tail 9 (by kernel_rfl) (by kernel_rfl) ?_
  simp only [List.take_succ_cons, List.take_zero, List.drop_succ_cons, List.drop_zero]
  repeat (first | still_step)
  refine wpStill_nil ?_
  change wpList _ _ _ _ _ w6.drew
  have P6 := Keep.mk (And.intro (Q6.out.1.drew.setC H4.out (c1 + d2)) (And.intro (Q6.out.2.1.drew.other (p := ⟨w.heap.size, c, none⟩) (by simp) (.int .u32 (W32 (c1 + d2)))) (Q6.out.2.2.drew.setCell (p := ⟨w.heap.size, c, none⟩) (Nat.le_refl _) (.int .u32 (W32 (c1 + d2))))))
  have fc' : w6.drew.frozen? ⟨w.heap.size, c, none⟩ = false := fc
  have cc' : w6.drew.cell? ⟨w.heap.size, c, none⟩ = some (.int .u32 (W32 c1)) := cc
  have E6 := Keep.mk (rfl : c1 + d2 = c1 + d2)
  generalize hw : w6.drew = wd at *
  clear ca cb cc cd fa fb fc fd Q6 hw
  go_wp2_with fail
  generalize wd.setCell ⟨w.heap.size, c, none⟩ (.int .u32 (W32 (c1 + d2))) = w7 at *
  clear fc' cc'
  clear wd
  obtain ⟨c2, hc2⟩ : ∃ z, z = c1 + d2 := ⟨_, rfl⟩
  have N6 := Keep.mk hc2
  rw [← hc2] at P6
  obtain ⟨Q7⟩ := P6
  have Q7 := Keep.mk Q7
  clear hc2 E6
  obtain ⟨ca, cb, cc, cd⟩ := Q7.out.1.cells H4.out
  have fa := Q7.out.1.arr.frozen a
  have fb := Q7.out.1.arr.frozen b
  have fc := Q7.out.1.arr.frozen c
  have fd := Q7.out.1.arr.frozen d
  refine wp_region_still_tail 10 (by kernel_rfl) (by kernel_rfl) ?_
  simp only [List.take_succ_cons, List.take_zero, List.drop_succ_cons, List.drop_zero]
  repeat (first | still_step | still_call (rotate_still _ (b1 ^^^ c2) 7 _ rfl rfl (by decide) _))
  refine wpStill_nil ?_
  change wpList _ _ _ _ _ w7.drew
  have P7 := Keep.mk (And.intro (Q7.out.1.drew.setB H4.out (rotr (b1 ^^^ c2) 7)) (And.intro (Q7.out.2.1.drew.other (p := ⟨w.heap.size, b, none⟩) (by simp) (.int .u32 (W32 (rotr (b1 ^^^ c2) 7)))) (Q7.out.2.2.drew.setCell (p := ⟨w.heap.size, b, none⟩) (Nat.le_refl _) (.int .u32 (W32 (rotr (b1 ^^^ c2) 7))))))
  have fb' : w7.drew.frozen? ⟨w.heap.size, b, none⟩ = false := fb
  have cb' : w7.drew.cell? ⟨w.heap.size, b, none⟩ = some (.int .u32 (W32 b1)) := cb
  have E7 := Keep.mk (rfl : rotr (b1 ^^^ c2) 7 = rotr (b1 ^^^ c2) 7)
  generalize hw : w7.drew = wd at *
  clear ca cb cc cd fa fb fc fd Q7 hw
  go_upto_region 9 with fail
  have LV := P7.out.1.len
  have HE := Keep.mk (HM.out a1 d1 c1 b1 a2 d2 c2 _ (by rw [N0.out, BitVec.add_assoc]) N1.out N2.out N3.out (by rw [N4.out, BitVec.add_assoc]) N5.out N6.out rfl)
  rw [HE.out] at P7 LV
  generalize wd.setCell ⟨w.heap.size, b, none⟩ (.int .u32 (W32 (rotr (b1 ^^^ c2) 7))) = w8 at *
  clear fb' cb' N0 N1 N2 N3 N4 N5 N6 HM E7 hxor hadd
  have hlt := P7.out.2.1.lt
  go_wp2_with (refine wpList_load_arr (o := ⟨some 95, _, _, _, _, _⟩) rfl 99 _ rfl w.heap.size _ (wvs (mixV v a b c d x y)) rfl P7.out.1.arr 16 77 Try.underlying99 (by rw [wvs_length, LV]; exact Try.info16) ?_; refine wpList_store_arr (o := ⟨none, _, _, _, _, _⟩) rfl 99 _ _ rfl (w.heap.size + 1) _ (wvs (zeros 16)) (wvs (mixV v a b c d x y)) rfl rfl P7.out.2.1 (by rw [wvs_length, LV]; exact Try.info16) (by rw [wvs_length, wvs_length, LV]; rfl) (wvs_one _) ?_; intro wz hAz hgz)
  exact ret_arr (g := w.heap.size + 1) (xs := wvs (mixV v a b c d x y)) rfl rfl hAz Try.underlying99 (by rw [wvs_length, LV]; exact Try.info16) rfl ⟨rfl, P7.out.2.2.grown hgz (by omega) (fun _ h => by cases h; omega)⟩
end Go.Proofs.Ytomlknjpaielgaa
