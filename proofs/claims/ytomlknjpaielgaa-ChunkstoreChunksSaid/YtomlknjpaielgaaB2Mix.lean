/- The mixing of four words, in place. Condition: four different places of sixteen. -/
import Derived.Test.YtomlknjpaielgaaB2Small
import Derived.BigRegion
namespace Go.Proofs.Ytomlknjpaielgaa
set_option maxRecDepth 100000
open Go.RowKit Go.Shelf Go.Proofs.Ytomlknjpaielgaa.B2

theorem addm_W32 (x y : W) : (W32 x + W32 y) % 4294967296 = W32 (x + y) := by rw [← IntKind.wrap_u32, add_W32]
/-- Four different places of sixteen. -/
structure Four (a b c d : Nat) : Prop where
  la : a < 16
  lb : b < 16
  lc : c < 16
  ld : d < 16
  ab : a ≠ b
  ac : a ≠ c
  ad : a ≠ d
  bc : b ≠ c
  bd : b ≠ d
  cd : c ≠ d

theorem grown_set {a w : World} {g : Nat} (h : a.grownBy w (some g)) (i : Nat) (u : Value) : a.grownBy (w.setCell ⟨g, i, none⟩ u) (some g) :=
  ⟨h.os, h.tape, h.output, Nat.le_trans h.size (Nat.le_of_eq (by simp)), fun k hk hne => (Below.heap_setCell w ⟨g, i, none⟩ u k (fun e => hne (by rw [e]))).trans (h.block k hk hne)⟩
theorem grown_drew {a w : World} {r : Option Nat} (h : a.grownBy w r) : a.grownBy w.drew r := ⟨h.os, h.tape, h.output, h.size, h.block⟩
theorem rot_to (n k : Int) (r : Nat) (x : W) (hn : n = W32 x) (hr : r ≤ 32) (h : bits .and .u64 (IntKind.u64.wrap k) 31 = ((32 - r : Nat) : Int)) (w : World) : Calls Try.prog 63 #[.int .u32 n, .int .i64 k] w fun e w' => e = .returned (.int .u32 (W32 (rotr x r))) ∧ w = w' := by
  subst hn; exact rotateLeft_any x k r hr h w

set_option maxRecDepth 100000 in
set_option maxHeartbeats 4000000 in
theorem mix_any (g : Nat) (v : List W) (hv : v.length = 16) (a b c d : Nat) (h4 : Four a b c d) (x y : W) (w : World) (hA : Arr w g 99 (wvs v)) :
    Calls Try.prog 56 #[.pointer (some ⟨g, 0, none⟩), .agg #[.int .i64 a, .int .i64 b, .int .i64 c, .int .i64 d], .int .u32 (W32 x), .int .u32 (W32 y)] w fun e w' =>
      e = .returned (.tuple #[]) ∧ Arr w' g 99 (wvs (mixV v a b c d x y)) ∧ w.grownBy w' (some g) := by
  obtain ⟨la, lb, lc, ld, ab, ac, ad, bc, bd, cd⟩ := h4
  have ca := hA.word (i := a) (by omega)
  have cb := hA.word (i := b) (by omega)
  have cc := hA.word (i := c) (by omega)
  have cd' := hA.word (i := d) (by omega)
  have ha := hA.frozen a
  have hb := hA.frozen b
  have hc := hA.frozen c
  have hd := hA.frozen d
  have HA := Keep.mk hA
  have hgl := hA.lt
  generalize hva : v.getD a 0 = va at *
  generalize hvb : v.getD b 0 = vb at *
  generalize hvc : v.getD c 0 = vc at *
  generalize hvd : v.getD d 0 = vd at *
  have hadd := addm_W32
  have hxor := xor_W32
  have i1 : (0 : Int) ≤ a := by omega
  have i2 : (0 : Int) ≤ b := by omega
  have i3 : (0 : Int) ≤ c := by omega
  have i4 : (0 : Int) ≤ d := by omega
  have j1 : (a : Int) < 16 := by omega
  have j2 : (b : Int) < 16 := by omega
  have j3 : (c : Int) < 16 := by omega
  have j4 : (d : Int) < 16 := by omega
  clear hA
  go_enter Try.func56, Try.ntmps56
  go_wp2_with fail
  go_quiet (fail)
  have hwa : Arr (w.alloc (.cells #[.int .i64 a, .int .i64 b, .int .i64 c, .int .i64 d] 103)) w.heap.size 103 [.int .i64 a, .int .i64 b, .int .i64 c, .int .i64 d] := Arr.new w _ _
  have HW := Keep.mk (hwa.drewN nq)
  have HG := Keep.mk ((HA.out.alloc (.cells #[.int .i64 a, .int .i64 b, .int .i64 c, .int .i64 d] 103)).drewN nq)
  have HB : Keep (w.grownBy ((w.alloc (.cells #[.int .i64 a, .int .i64 b, .int .i64 c, .int .i64 d] 103)).drewN nq) (some g)) := ⟨(World.grownBy_alloc w _ (some g)).trans ⟨rfl, rfl, rfl, Nat.le_refl _, fun _ _ _ => rfl⟩⟩
  clear hwa HA ca cb cc cd' ha hb hc hd
  generalize (w.alloc (.cells #[.int .i64 a, .int .i64 b, .int .i64 c, .int .i64 d] 103)).drewN nq = w1 at *
  go_wp2_with (first | (go_at_call 63; refine (rot_to _ _ 16 _ rfl (by decide) (by decide +kernel) _).mono ?_; rintro e w' ⟨rfl, rfl⟩) | (go_at_call 63; refine (rot_to _ _ 12 _ rfl (by decide) (by decide +kernel) _).mono ?_; rintro e w' ⟨rfl, rfl⟩) | (go_at_call 63; refine (rot_to _ _ 8 _ rfl (by decide) (by decide +kernel) _).mono ?_; rintro e w' ⟨rfl, rfl⟩) | (go_at_call 63; refine (rot_to _ _ 7 _ rfl (by decide) (by decide +kernel) _).mono ?_; rintro e w' ⟨rfl, rfl⟩))
  have b0 := HW.out.cell 0
  have b1 := HW.out.cell 1
  have b2 := HW.out.cell 2
  have b3 := HW.out.cell 3
  have fa := HG.out.frozen a
  have fb := HG.out.frozen b
  have fc := HG.out.frozen c
  have fd := HG.out.frozen d
  have ca := HG.out.word (i := a) (by omega)
  have cb := HG.out.word (i := b) (by omega)
  have cc := HG.out.word (i := c) (by omega)
  have cd' := HG.out.word (i := d) (by omega)
  simp only [List.getElem?_cons_zero, List.getElem?_cons_succ] at b0 b1 b2 b3
  have hne : g ≠ w.heap.size := Nat.ne_of_lt hgl
  have hne' : w.heap.size ≠ g := Ne.symm hne
  generalize w.heap.size = bx at *
  clear hgl
  go_region
  go_end0
  refine ⟨rfl, ?_, ?_⟩
  · have h := fun p q r s => (((HG.out.setW a p).setW b q).setW c r).setW d s
    rw [mixV, hva, hvb, hvc, hvd]
    exact h _ _ _ _
  · exact grown_drew (grown_set (grown_set (grown_set (grown_set HB.out _ _) _ _) _ _) _ _)
end Go.Proofs.Ytomlknjpaielgaa
