/- Compress of both implementations on blocks of other lengths: refused. Condition: the block's length is not 64. -/
import Derived.Test.YtkklknfjakdpmaaB2RefComp
namespace Go.Proofs.Ytkklknfjakdpmaa
open Go.RowKit Go.Shelf Go.Proofs.Ytkklknfjakdpmaa.B2

set_option maxRecDepth 100000 in
set_option maxHeartbeats 2000000 in
theorem compress_bad (h : List W) (s : ByteArray) (hs : s.size ≠ 64) (count : Nat) (last : Bool) (w : World) :
    Calls Try.prog 15 #[.agg (wvs h).toArray, .string s, .int .u64 count, .bool last] w fun e w' =>
      e = .returned (.tuple #[.agg (wvs (zeros 8)).toArray, .int .i64 1]) ∧ Below w.heap.size w w' := by
  have hb : ((s.size : Int) != 64) = true := by simp; omega
  have ha := Keep.mk (Arr.new (w.alloc (.cells (wvs h).toArray 32)) 32 (wvs (zeros 8)))
  go_enter Try.func15, Try.ntmps15
  go_wp2
  exact ret_arr2 (g := w.heap.size + 1) (xs := wvs (zeros 8)) rfl rfl (by have := ha.out; rw [World.size_alloc] at this; exact this) Try.underlying32 Try.info8 rfl ⟨rfl, ((Below.refl _ _).alloc (Nat.le_refl _) _).alloc (by simp) _⟩
set_option maxRecDepth 100000 in
set_option maxHeartbeats 2000000 in
theorem refCompress_bad (h : List W) (s : ByteArray) (hs : s.size ≠ 64) (count : Nat) (last : Bool) (w : World) :
    Calls Try.prog 16 #[.agg (wvs h).toArray, .string s, .int .u64 count, .bool last] w fun e w' =>
      e = .returned (.tuple #[.agg (wvs (zeros 8)).toArray, .int .i64 1]) ∧ Below w.heap.size w w' := by
  have hb : ((s.size : Int) != 64) = true := by simp; omega
  have ha := Keep.mk (Arr.new (w.alloc (.cells (wvs h).toArray 32)) 32 (wvs (zeros 8)))
  go_enter Try.func16, Try.ntmps16
  go_wp2
  exact ret_arr2 (g := w.heap.size + 1) (xs := wvs (zeros 8)) rfl rfl (by have := ha.out; rw [World.size_alloc] at this; exact this) Try.underlying32 Try.info8 rfl ⟨rfl, ((Below.refl _ _).alloc (Nat.le_refl _) _).alloc (by simp) _⟩
end Go.Proofs.Ytkklknfjakdpmaa
