/- The checksum: double, Update, Sum. Condition: bounds on lengths. -/
import Derived.Test.YtojgopbaiflfgaaGreatDoorB2Arr
import Derived.Test.YtojgopbaiflfgaaGreatDoorStrs
import Derived.Deep.DeepCutAuto
import Derived.StillTailTactics
namespace Go.Proofs.YtojgopbaiflfgaaGreatDoor
set_option maxRecDepth 100000
open Go.RowKit Go.Shelf Go.Proofs.YtojgopbaiflfgaaGreatDoor.B2

theorem Strs.len {w : World} {v : Value} {l : List ByteArray} (h : Strs w v l) : ∃ a cap, v = .slice a l.length cap ∧ l.length ≤ cap ∧ cap ≤ maxLen := by obtain ⟨a, cap, rfl, h1, h2, _⟩ := h; exact ⟨a, cap, rfl, h1, h2⟩
theorem Strs.get {w : World} {v : Value} {l : List ByteArray} (h : Strs w v l) {i : Nat} {s : ByteArray} (hi : l[i]? = some s) : ∃ b o cap, v = .slice (some ⟨b, o, none⟩) l.length cap ∧ b < w.heap.size ∧ w.cell? ⟨b, o + i, none⟩ = some (.string s) := by
  have hlt := (List.getElem?_eq_some_iff.1 hi).1
  obtain ⟨a, cap, rfl, h1, h2, h3⟩ := h
  rcases h3 with rfl | ⟨b, o, rfl, hb, hc⟩
  · simp at hlt
  · exact ⟨b, o, cap, rfl, hb, hc i s hi⟩
def dblC (x : W) : W := if 2147483648 ≤ x.toNat then (x <<< 1) ^^^ 79764919#32 else x <<< 1
def dblN : Nat → W → W
  | 0, x => x
  | n + 1, x => dblC (dblN n x)
def stepC (c : W) (b : UInt8) : W := dblN 8 (c ^^^ (BitVec.ofNat 32 b.toNat <<< 24))
def updC (c : W) (l : List UInt8) : W := l.foldl stepC c
def sumC (l : List UInt8) : W := updC 4294967295#32 l
theorem updC_step {c : W} {l : List UInt8} {k : Nat} {b : UInt8} (h : l[k]? = some b) : updC c (l.take (k + 1)) = stepC (updC c (l.take k)) b := by
  unfold updC
  rw [List.take_add_one, h, Option.toList_some, List.foldl_append, List.foldl_cons, List.foldl_nil]
theorem shl1_W32 (x : W) : (W32 x * (2 : Int)) % (4294967296 : Int) = W32 (x <<< 1) := by
  have h : (x <<< 1).toNat = x.toNat * 2 % 4294967296 := by
    rw [BitVec.toNat_shiftLeft, Nat.shiftLeft_eq]
  unfold W32
  rw [h]
  omega
theorem double_any (x : W) (w : World) : Calls Tryz.prog 93 #[.int .u32 (W32 x)] w fun e w' => e = .returned (.int .u32 (W32 (dblC x))) ∧ w' = w := by
  have h0 := W32_lo x
  have h1 := W32_hi x
  have h2 := shl1_W32 x
  have h3 : bits .xor .u32 (W32 (x <<< 1)) 79764919 = W32 ((x <<< 1) ^^^ 79764919#32) := by
    have h := lit_W32 79764919 (by decide)
    rw [show (79764919 : Int) = ((79764919 : Nat) : Int) from rfl, h, xor_W32]
  by_cases h : 2147483648 ≤ x.toNat
  · have HE : Keep (dblC x = (x <<< 1) ^^^ 79764919#32) := ⟨if_pos h⟩
    have q : (W32 x / 2147483648 == 1) = true := by
      unfold W32 at h0 h1 ⊢
      rw [beq_iff_eq]
      omega
    clear h
    go_enter Tryz.func93, Tryz.ntmps93
    go_wp2_with fail
    go_ret
    exact ⟨by rw [HE.out, ← h3, ← h2]; rfl, rfl⟩
  · have HE : Keep (dblC x = x <<< 1) := ⟨if_neg h⟩
    have q : (W32 x / 2147483648 == 1) = false := by
      unfold W32 at h0 h1 ⊢
      rw [beq_eq_false_iff_ne]
      omega
    clear h
    go_enter Tryz.func93, Tryz.ntmps93
    go_wp2_with fail
    go_ret
    exact ⟨by rw [HE.out, ← h2]; rfl, rfl⟩
set_option maxHeartbeats 4000000 in
theorem update_any (c : W) (s : ByteArray) (w : World) (hs : s.size ≤ maxLen) : Calls Tryz.prog 76 #[.int .u32 (W32 c), .string s] w fun e w' => e = .returned (.int .u32 (W32 (updC c s.data.toList))) ∧ w' = w := by
  unfold maxLen at hs
  go_enter Tryz.func76, Tryz.ntmps76
  go_wp2_with fail
  go_loop [8, 0] (fun i c0 => ∃ k : Nat, k ≤ s.size ∧ i = .int .i64 k ∧ c0 = .int .u32 (W32 (updC c (s.data.toList.take k)))) (fun i _ => s.size - (intOf i).toNat)
  case atStart => exact ⟨0, Nat.zero_le _, rfl, rfl⟩
  case round =>
    obtain ⟨k, hk, rfl, rfl⟩ := hrel
    by_cases hlt : k < s.size
    · have k0 : (0 : Int) ≤ k := by omega
      have k1 : (k : Int) < s.size := by omega
      have hb : s.data.toList[k]? = some s[k] := by rw [List.getElem?_eq_getElem (by simpa using hlt)]; rfl
      have HB := Keep.mk (updC_step (c := c) hb)
      clear hb
      generalize updC c (s.data.toList.take k) = x at *
      have hx : bits .xor .u32 (W32 x) ((s[k].toNat : Int) % 4294967296 * 16777216 % 4294967296) = W32 (x ^^^ (BitVec.ofNat 32 s[k].toNat <<< 24)) := by
        have h1 : (((s[k].toNat : Int) % (4294967296 : Int)) * (16777216 : Int)) % (4294967296 : Int) = W32 (BitVec.ofNat 32 s[k].toNat <<< 24) := by
          unfold W32
          rw [BitVec.toNat_shiftLeft, Nat.shiftLeft_eq, BitVec.toNat_ofNat]
          omega
        rw [h1, xor_W32]
      have hg : s.data.toList[k]? = some s[k] := by rw [List.getElem?_eq_getElem (by simpa using hlt)]; rfl
      go_upto_region 5 with (fail)
      clear hx hg
      go_wp2_with fail
      go_loop [18, 0] (fun i c0 => ∃ j : Nat, j ≤ 8 ∧ i = .int .i64 j ∧ c0 = .int .u32 (W32 (dblN j (x ^^^ (BitVec.ofNat 32 s[k].toNat <<< 24))))) (fun i _ => 8 - (intOf i).toNat)
      case atStart => exact ⟨0, Nat.zero_le _, rfl, rfl⟩
      case round =>
        obtain ⟨j, hj, rfl, rfl⟩ := hrel
        by_cases hlj : j < 8
        · have j0 : (0 : Int) ≤ j := by omega
          have j1 : (j : Int) < 8 := by omega
          go_wp2_with fail
          refine (double_any (dblN j (x ^^^ (BitVec.ofNat 32 s[k].toNat <<< 24))) _).mono ?_
          rintro _ w2 ⟨rfl, rfl⟩
          go_wp2_with fail
          go_round
          case rel => exact ⟨j + 1, by omega, by go_num, rfl⟩
          case measure => simp [intOf]; omega
        · obtain rfl : j = 8 := by omega
          go_wp2_with fail
          go_round
          case rel => exact ⟨k + 1, by omega, by go_num, by rw [HB.out]; rfl⟩
          case measure => simp [intOf]; omega
    · obtain rfl : k = s.size := by omega
      have HE : Keep (s.data.toList.take s.size = s.data.toList) := ⟨List.take_of_length_le (by simp)⟩
      go_wp2_with fail
      go_ret
      exact ⟨by rw [HE.out]; rfl, rfl⟩
set_option maxHeartbeats 4000000 in
theorem crcSum_any {v : Value} {s : ByteArray} {w : World} (hv : Strs w v [s]) (hs : s.size ≤ maxLen) : Calls Tryz.prog 56 #[v] w fun e w' => e = .returned (.int .u32 (W32 (sumC s.data.toList))) ∧ w' = w := by
  obtain ⟨b, o, cap, rfl, hb, hc0⟩ := hv.get (i := 0) (s := s) rfl
  rw [Nat.add_zero] at hc0
  have hcap : cap ≤ 9223372036854775807 ∧ 1 ≤ cap := by
    obtain ⟨_, _, hv', h1, h2⟩ := hv.len
    simp only [Value.slice.injEq, true_and] at hv'
    obtain ⟨_, rfl⟩ := hv'
    unfold maxLen at h2
    exact ⟨h2, h1⟩
  have hlit : (4294967295 : Int) = W32 4294967295#32 := by
    have h := lit_W32 4294967295 (by decide)
    exact h
  have hl1 : (0 : Int) < 1 := by decide
  go_enter Tryz.func56, Tryz.ntmps56
  go_wp2_with fail
  go_loop [8, 3] (fun i c0 => ∃ k : Nat, k ≤ 1 ∧ i = .int .i64 k ∧ c0 = .int .u32 (if k = 0 then W32 4294967295#32 else W32 (sumC s.data.toList))) (fun i _ => 1 - (intOf i).toNat)
  case atStart => exact ⟨0, by omega, rfl, by rw [if_pos rfl, ← hlit]⟩
  case round =>
    obtain ⟨k, hk, rfl, rfl⟩ := hrel
    by_cases hk0 : k = 0
    · subst hk0
      have hU := Keep.mk (update_any 4294967295#32 s w hs)
      rw [if_pos rfl]
      go_wp2_with fail
      refine hU.out.mono ?_
      rintro _ w2 ⟨rfl, rfl⟩
      go_wp2_with fail
      go_round
      case rel => exact ⟨1, by omega, by go_num, by rw [if_neg (by decide)]; rfl⟩
      case measure => simp [intOf]
    · obtain rfl : k = 1 := by omega
      rw [if_neg (by decide)]
      go_wp2_with fail
      go_ret
      exact ⟨rfl, rfl⟩
end Go.Proofs.YtojgopbaiflfgaaGreatDoor
