/- The two functions that count zero bytes. Condition: the string's own bound. -/
import Derived.Test.YtomlknjpaielgaaSegs
import Derived.Deep.QuietTactic
import Derived.BigQuiet
import Derived.Laws.StructEq
import Derived.ChangeKeysEq
namespace Go.Proofs.Ytomlknjpaielgaa
set_option maxRecDepth 100000
open Go.RowKit Go.Shelf Go.Proofs.Ytomlknjpaielgaa.Sparse

theorem zerosN_drop_lt {s : ByteArray} {k : Nat} (h : k < s.size) : zerosN (s.data.toList.drop k) = if s[k] = 0 then zerosN (s.data.toList.drop (k + 1)) + 1 else 0 := by
  rw [drop_cons s k h]; rfl
theorem zerosN_drop_ge {s : ByteArray} {k : Nat} (h : s.size ≤ k) : zerosN (s.data.toList.drop k) = 0 := by
  rw [List.drop_of_length_le (by simp; omega)]; rfl
theorem byte_zero {c : UInt8} : ((c.toNat : Int) == 0) = decide (c = 0) := by
  rw [Bool.eq_iff_iff]
  simp only [beq_iff_eq, decide_eq_true_eq]
  constructor
  · intro h
    have h2 : c.toNat = 0 := by omega
    exact UInt8.toNat_inj.1 h2
  · intro h; rw [h]; rfl

set_option maxHeartbeats 400000 in
theorem zeros_any (s : ByteArray) (w : World) (hs : s.size ≤ maxLen) :
    Calls Try.prog 47 #[.string s] w fun e w' => e = .returned (.int .i64 (zerosN s.data.toList)) ∧ w = w' := by
  unfold maxLen at hs
  go_enter Try.func47, Try.ntmps47
  go_wp2
  go_loop [3] (fun i => ∃ k : Nat, k ≤ s.size ∧ i = .int .i64 k ∧ Keep (zerosN (s.data.toList.drop k) + k = zerosN s.data.toList)) (fun i => s.size - (intOf i).toNat)
  case atStart => exact ⟨0, Nat.zero_le _, rfl, ⟨rfl⟩⟩
  case round =>
    obtain ⟨k, hk, rfl, hf⟩ := hrel
    by_cases hlt : k < s.size
    · have hd := zerosN_drop_lt hlt
      by_cases h0 : s[k] = 0
      · have hz : ((s[k].toNat : Int) == 0) = true := by rw [byte_zero]; simp [h0]
        rw [if_pos h0] at hd
        have HD := Keep.mk hd
        clear hd h0
        go_wp2
        go_round
        case rel => exact ⟨k + 1, by omega, by go_num, ⟨by have := hf.out; have := HD.out; omega⟩⟩
        case measure => simp [intOf]; omega
      · have hz : ((s[k].toNat : Int) == 0) = false := by rw [byte_zero]; simp [h0]
        rw [if_neg h0] at hd
        have HD := Keep.mk hd
        clear hd h0
        go_wp2
        go_ret
        exact ⟨ret_int (by have := hf.out; have := HD.out; omega), rfl⟩
    · have hd := zerosN_drop_ge (s := s) (k := k) (by omega)
      have HD := Keep.mk hd
      clear hd
      go_wp2
      go_ret
      exact ⟨ret_int (by have := hf.out; have := HD.out; omega), rfl⟩

set_option maxHeartbeats 400000 in
theorem refZeros_any (s : ByteArray) (i : Nat) (w : World) (hs : s.size ≤ 1000000) (hi : i ≤ s.size) :
    Calls Try.prog 43 #[.string s, .int .i64 i] w fun e w' => e = .returned (.int .i64 (zerosN (s.data.toList.drop i))) ∧ w = w' := by
  go_enter Try.func43, Try.ntmps43
  go_wp2
  go_loop [5] (fun v => ∃ k : Nat, i + k ≤ s.size ∧ v = .int .i64 k ∧ Keep (zerosN (s.data.toList.drop (i + k)) + k = zerosN (s.data.toList.drop i))) (fun v => s.size - (intOf v).toNat)
  case atStart => exact ⟨0, by omega, rfl, ⟨rfl⟩⟩
  case round =>
    obtain ⟨k, hk, rfl, hf⟩ := hrel
    by_cases hlt : i + k < s.size
    · have hd := zerosN_drop_lt hlt
      have hlt' : (i : Int) + (k : Int) < (s.size : Int) := by omega
      by_cases h0 : s[i + k] = 0
      · have hz : ((s[i + k].toNat : Int) == 0) = true := by rw [byte_zero]; simp [h0]
        rw [if_pos h0] at hd
        have HD := Keep.mk hd
        clear hd h0
        go_wp2
        go_round
        case rel => exact ⟨k + 1, by omega, by go_num, ⟨by have := hf.out; have := HD.out; rw [Nat.add_assoc] at this; omega⟩⟩
        case measure => simp [intOf]; omega
      · have hz : ((s[i + k].toNat : Int) == 0) = false := by rw [byte_zero]; simp [h0]
        rw [if_neg h0] at hd
        have HD := Keep.mk hd
        clear hd h0
        go_wp2
        go_ret
        exact ⟨ret_int (by have := hf.out; have := HD.out; omega), rfl⟩
    · have hd := zerosN_drop_ge (s := s) (k := i + k) (by omega)
      have hlt' : ¬ (i : Int) + (k : Int) < (s.size : Int) := by omega
      have HD := Keep.mk hd
      clear hd
      go_wp2
      go_ret
      exact ⟨ret_int (by have := hf.out; have := HD.out; omega), rfl⟩
end Go.Proofs.Ytomlknjpaielgaa
