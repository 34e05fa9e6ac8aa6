/- The small functions of both implementations: tables, digits, rotations. No condition but small arguments. -/
import Derived.Test.YtomlknjpaielgaaB2Arr
namespace Go.Proofs.Ytomlknjpaielgaa
set_option maxRecDepth 100000
open Go.RowKit Go.Shelf Go.Proofs.Ytomlknjpaielgaa.B2

def ivA : Array Value := (wvs iv).toArray
theorem ivA_lit : ivA = #[.int .u32 1779033703, .int .u32 3144134277, .int .u32 1013904242, .int .u32 2773480762, .int .u32 1359893119, .int .u32 2600822924, .int .u32 528734635, .int .u32 1541459225] := rfl
theorem Try.info8 : (Try.prog.info? 78).map (·.size) = some 8 := by kernel_rfl
theorem Try.info16 : (Try.prog.info? 99).map (·.size) = some 16 := by kernel_rfl
theorem Try.info4 : (Try.prog.info? 103).map (·.size) = some 4 := by kernel_rfl
theorem Try.info10 : (Try.prog.info? 101).map (·.size) = some 10 := by kernel_rfl
theorem Try.info32 : (Try.prog.info? 104).map (·.size) = some 32 := by kernel_rfl
/-- A result that lies in a cell of the call's own: an array. -/
theorem ret_arr {R : Ending → World → Prop} {fn : Func} {p : Tmp} {ty : TypeId} (h : fn.results = #[.cell p ty]) {a : Act} {w : World} {g : Nat} {t : TypeId} {xs : List Value} {n : Nat} {e : TypeId}
    (hp : a.tmps.getD p undef = .pointer (some ⟨g, 0, none⟩)) (hg : Arr w g t xs) (hu : Try.prog.underlying ty = some (.array n e)) (hi : (Try.prog.info? ty).map (·.size) = some xs.length) (hd : a.defers = [])
    (hR : R (.returned (.agg xs.toArray)) w) : bodyPost Try.prog fn R .ret a w := by
  refine bodyPost_ret (v := .agg xs.toArray) ?_ hd hR
  exact results_cell_row h a.tmps w g t _ (0, 0) _ hp hg hu rfl (by simpa using hi)
/-- Two results: an array in a cell, and a plain slot. -/
theorem ret_arr2 {R : Ending → World → Prop} {fn : Func} {p q : Tmp} {ty : TypeId} (h : fn.results = #[.cell p ty, .tmp q]) {a : Act} {w : World} {g : Nat} {t : TypeId} {xs : List Value} {n : Nat} {e : TypeId}
    (hp : a.tmps.getD p undef = .pointer (some ⟨g, 0, none⟩)) (hg : Arr w g t xs) (hu : Try.prog.underlying ty = some (.array n e)) (hi : (Try.prog.info? ty).map (·.size) = some xs.length) (hd : a.defers = [])
    (hR : R (.returned (.tuple #[.agg xs.toArray, a.tmps.getD q undef])) w) : bodyPost Try.prog fn R .ret a w := by
  refine bodyPost_ret (v := .tuple #[.agg xs.toArray, a.tmps.getD q undef]) ?_ hd hR
  have hp' : a.tmps[p]?.getD undef = .pointer (some ⟨g, 0, none⟩) := by simpa using hp
  have hl := run_loadVar_row (P := Try.prog) w g t ty _ (0, 0) _ hg hu rfl (by simpa using hi)
  simp [results, h, hp', asAddr, hl]
theorem initial_any (w : World) : Calls Try.prog 38 #[] w fun e w' => e = .returned (.agg ivA) ∧ Below w.heap.size w w' := by
  go_enter Try.func38, Try.ntmps38
  go_wp2
  exact ret_arr (g := w.heap.size) (xs := wvs iv) rfl rfl (Arr.new w _ (wvs iv)) Try.underlying78 Try.info8 rfl ⟨rfl, (Below.refl _ _).alloc (Nat.le_refl _) _⟩
theorem refInitial_any (w : World) : Calls Try.prog 59 #[] w fun e w' => e = .returned (.agg ivA) ∧ Below w.heap.size w w' := by
  go_enter Try.func59, Try.ntmps59
  go_wp2
  exact ret_arr (g := w.heap.size) (xs := wvs iv) rfl rfl (Arr.new w _ (wvs iv)) Try.underlying78 Try.info8 rfl ⟨rfl, (Below.refl _ _).alloc (Nat.le_refl _) _⟩
def permL : List Nat := [0x0123456789abcdef, 0xea489fd61c02b753, 0xb8c052fdae367194, 0x7931dcbe265a40f8, 0x905724afe1bc683d, 0x2c6a0b834d75fe19, 0xc51fed4a0763928b, 0xdb7ec13950f4862a, 0x6fe9b308c2d714a5, 0xa2847615fb9e3cd0]
def permA : Array Value := (permL.map fun n : Nat => Value.int .u64 n).toArray
theorem permutations_any (w : World) : Calls Try.prog 54 #[] w fun e w' => e = .returned (.agg permA) ∧ Below w.heap.size w w' := by
  go_enter Try.func54, Try.ntmps54
  go_wp2
  exact ret_arr (g := w.heap.size) (xs := permL.map fun n : Nat => Value.int .u64 n) rfl rfl (Arr.new w _ (permL.map fun n : Nat => Value.int .u64 n)) Try.underlying101 Try.info10 rfl ⟨rfl, (Below.refl _ _).alloc (Nat.le_refl _) _⟩
theorem rotr_spell (x : W) (r : Nat) : bits .or .u32 (W32 x / 2 ^ r) (W32 x * 2 ^ (32 - r) % 4294967296) = W32 (rotr x r) := by
  rw [shr_W32, ← IntKind.wrap_u32, shl_W32, or_W32]; rfl
theorem rotate_any (x : W) (r : Nat) (hr : r ≤ 32) (w : World) : Calls Try.prog 72 #[.int .u32 (W32 x), .int .u64 r] w fun e w' => e = .returned (.int .u32 (W32 (rotr x r))) ∧ w = w' := by
  go_enter Try.func72, Try.ntmps72
  go_wp2
  go_ret
  exact ⟨by rw [← rotr_spell]; rfl, rfl⟩
theorem rotateLeft_any (x : W) (k : Int) (r : Nat) (hr : r ≤ 32) (h : bits .and .u64 (IntKind.u64.wrap k) 31 = ((32 - r : Nat) : Int)) (w : World) : Calls Try.prog 63 #[.int .u32 (W32 x), .int .i64 k] w fun e w' => e = .returned (.int .u32 (W32 (rotr x r))) ∧ w = w' := by
  obtain ⟨s, hs⟩ : ∃ s, s = 32 - r := ⟨_, rfl⟩
  obtain rfl : r = 32 - s := by omega
  rw [← hs] at h
  have hs' : s ≤ 32 := by omega
  clear hs hr
  go_enter Try.func63, Try.ntmps63
  go_wp2
  go_ret
  have e : 32 - (32 - s) = s := by omega
  refine ⟨?_, rfl⟩
  rw [← rotr_spell, e, ← IntKind.wrap_u32, shl_W32, shr_W32, or_W32, or_W32, BitVec.or_comm]
  rfl
def permS (r : Nat) : ByteArray := mkS ((sigma.getD r []).map nib)
theorem permutation_any (r : Nat) (hr : r < 10) (w : World) : Calls Try.prog 66 #[.int .i64 r] w fun e w' => e = .returned (.string (permS r)) ∧ w = w' := by
  go_enter Try.func66, Try.ntmps66
  rcases r with _ | _ | _ | _ | _ | _ | _ | _ | _ | _ | r
  case succ.succ.succ.succ.succ.succ.succ.succ.succ.succ => exact absurd hr (by omega)
  all_goals
    go_wp2
    go_ret
    exact ⟨by rfl, rfl⟩
theorem columns_any (i : Nat) (hi : i < 8) (w : World) : Calls Try.prog 67 #[.int .i64 i] w fun e w' => e = .returned (.agg #[.int .i64 (col i 0), .int .i64 (col i 1), .int .i64 (col i 2), .int .i64 (col i 3)]) ∧ Below w.heap.size w w' := by
  go_enter Try.func67, Try.ntmps67
  rcases i with _ | _ | _ | _ | _ | _ | _ | _ | i
  case succ.succ.succ.succ.succ.succ.succ.succ => exact absurd hi (by omega)
  all_goals
    go_wp2
    exact ret_arr (g := w.heap.size) (xs := [.int .i64 (col _ 0), .int .i64 (col _ 1), .int .i64 (col _ 2), .int .i64 (col _ 3)]) rfl rfl (Arr.new w _ _) Try.underlying103 Try.info4 rfl ⟨rfl, (Below.refl _ _).alloc (Nat.le_refl _) _⟩
theorem nib_nat {n : Nat} (hn : n < 16) : ((nib n).toNat : Int) = if n < 10 then 48 + n else 87 + n := by
  unfold nib
  split
  · rw [UInt8.toNat_ofNat']; omega
  · rw [UInt8.toNat_ofNat']; omega
theorem digit_any (n : Nat) (hn : n < 16) (w : World) : Calls Try.prog 69 #[.int .u8 ((nib n).toNat : Int)] w fun e w' => e = .returned (.int .i64 n) ∧ w = w' := by
  rw [nib_nat hn]
  by_cases h : n < 10
  · rw [if_pos h]
    go_enter Try.func69, Try.ntmps69
    go_wp2
    go_ret
    exact ⟨ret_int (a := 48 + (n : Int) - 48) (by omega), rfl⟩
  · rw [if_neg h]
    go_enter Try.func69, Try.ntmps69
    go_wp2
    go_ret
    exact ⟨ret_int (a := 87 + (n : Int) - 87) (by omega), rfl⟩
end Go.Proofs.Ytomlknjpaielgaa
