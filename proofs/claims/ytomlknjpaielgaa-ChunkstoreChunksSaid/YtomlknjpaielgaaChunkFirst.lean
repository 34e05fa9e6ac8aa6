/- chunker.First and steleref33.First return the length of the first chunk; nothing is written. Condition: none beyond a string's own bound. -/
import Derived.Test.YtomlknjpaielgaaChunkMath
namespace Go.Proofs.Ytomlknjpaielgaa
set_option maxRecDepth 100000
open Go.RowKit Go.Shelf Go.Proofs.Ytomlknjpaielgaa.Chunk

set_option maxHeartbeats 400000 in
theorem first_any (s : ByteArray) (w : World) (hs : s.size ≤ maxLen) :
    Calls Try.prog 50 #[.string s] w fun e w' => e = .returned (.int .i64 (first s.data.toList)) ∧ w = w' := by
  unfold maxLen at hs
  go_enter Try.func50, Try.ntmps50
  go_wp2
  go_loop [3, 8] (fun h i => ∃ k m : Nat, k ≤ s.size ∧ i = .int .i64 k ∧ h = .int .i64 m ∧ m < 65536 ∧ Keep (firstFrom m k (s.data.toList.drop k) = first s.data.toList)) (fun _ i => s.size - (intOf i).toNat)
  case atStart => exact ⟨0, 0, Nat.zero_le _, rfl, rfl, by decide, ⟨rfl⟩⟩
  case round =>
    obtain ⟨k, m, hk, rfl, rfl, hm, hf⟩ := hrel
    by_cases hlt : k < s.size
    · have hb : (s[k].toNat : Int) ≤ 255 := by have := s[k].toNat_lt; omega
      have hd : s.data.toList.drop k = s[k] :: s.data.toList.drop (k + 1) := drop_cons s k hlt
      have hmv : ((roll m s[k] : Nat) : Int) = (2 * (m : Int) + 40503 * ((s[k].toNat : Int) + 1)) % 65536 := by unfold roll; omega
      have hfh := hf.out
      rw [hd] at hfh
      simp only [firstFrom] at hfh
      have HF := Keep.mk hfh
      have HM := Keep.mk hmv
      clear hfh hmv hd hf
      go_wp2
      · go_ret
        refine ⟨ret_int ?_, rfl⟩
        have := HF.out
        rw [if_pos (cut_96 (by omega))] at this
        omega
      · go_ret
        refine ⟨ret_int ?_, rfl⟩
        have := HF.out
        rw [if_pos (cut_lt (by omega) (by have := HM.out; simp only [beq_iff_eq] at *; omega))] at this
        omega
      all_goals
        go_round
        case rel => exact ⟨k + 1, roll m s[k], by omega, by go_num, by rw [HM.out], roll_lt _ _, by
          have := HF.out
          rw [if_neg (by rw [cut_no]; simp only [beq_eq_false_iff_ne] at *; have := HM.out; omega)] at this
          exact ⟨this⟩⟩
        case measure => simp [intOf]; omega
    · go_wp2
      go_ret
      refine ⟨ret_int ?_, rfl⟩
      have := hf.out
      rw [List.drop_of_length_le (by simp; omega)] at this
      simp only [firstFrom] at this
      omega
end Go.Proofs.Ytomlknjpaielgaa
