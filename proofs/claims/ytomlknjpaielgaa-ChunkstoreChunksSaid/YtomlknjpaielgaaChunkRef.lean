/- steleref33.First and Split return what chunker.First and Split return; Same compares two lists. Condition: strings of at most a million bytes. -/
import Derived.Test.YtomlknjpaielgaaChunkSplit
namespace Go.Proofs.Ytomlknjpaielgaa
set_option maxRecDepth 100000
open Go.RowKit Go.Shelf Go.Proofs.Ytomlknjpaielgaa.Chunk

set_option maxHeartbeats 400000 in
theorem refFirst_any (s : ByteArray) (w : World) (hs : s.size ≤ maxLen) :
    Calls Try.prog 44 #[.string s] w fun e w' => e = .returned (.int .i64 (first s.data.toList)) ∧ w = w' := by
  unfold maxLen at hs
  go_enter Try.func44, Try.ntmps44
  go_wp2
  go_loop [3, 4] (fun h i => ∃ k m : Nat, k ≤ s.size ∧ i = .int .i64 k ∧ h = .int .i64 m ∧ m < 65536 ∧ Keep (firstFrom m k (s.data.toList.drop k) = first s.data.toList)) (fun _ i => s.size - (intOf i).toNat)
  case atStart => exact ⟨0, 0, Nat.zero_le _, rfl, rfl, by decide, ⟨rfl⟩⟩
  case round =>
    obtain ⟨k, m, hk, rfl, rfl, hm, hf⟩ := hrel
    by_cases hlt : k < s.size
    · have hb : (s[k].toNat : Int) ≤ 255 := by have := s[k].toNat_lt; omega
      have hd : s.data.toList.drop k = s[k] :: s.data.toList.drop (k + 1) := drop_cons s k hlt
      have hmv : ((roll m s[k] : Nat) : Int) = (2 * (m : Int) + 40503 * ((s[k].toNat : Int) + 1)) % 65536 := by unfold roll; omega
      have hfh := hf.out
      rw [hd] at hfh
      simp only [firstFrom] at hfh
      have HF := Keep.mk hfh
      have HM := Keep.mk hmv
      clear hfh hmv hd hf
      go_wp2
      · go_ret
        refine ⟨ret_int ?_, rfl⟩
        have := HF.out
        rw [if_pos (cut_96 (by omega))] at this
        omega
      · go_ret
        refine ⟨ret_int ?_, rfl⟩
        have := HF.out
        rw [if_pos (cut_lt (by omega) (by have := HM.out; simp only [beq_iff_eq] at *; omega))] at this
        omega
      all_goals
        go_round
        case rel => exact ⟨k + 1, roll m s[k], by omega, by go_num, by rw [HM.out], roll_lt _ _, by
          have := HF.out
          rw [if_neg (by rw [cut_no]; simp only [beq_eq_false_iff_ne] at *; have := HM.out; omega)] at this
          exact ⟨this⟩⟩
        case measure => simp [intOf]; omega
    · go_wp2
      go_ret
      refine ⟨ret_int ?_, rfl⟩
      have := hf.out
      rw [List.drop_of_length_le (by simp; omega)] at this
      simp only [firstFrom] at this
      omega

def strSize : Value → Nat
  | .string r => r.size
  | _ => 0

set_option maxHeartbeats 1000000 in
theorem refSplit_any (s : ByteArray) (w : World) (hs : s.size ≤ 1000000) :
    Calls Try.prog 30 #[.string s] w fun e w' =>
      ∃ v, e = .returned v ∧ w'.ownsRow w.heap.size 9 1 v (chunkS s.data.toList).length ((chunkS s.data.toList).map Value.string) ∧ Below w.heap.size w w' := by
  obtain ⟨i0, hi, hz0, hz1, hz2⟩ := info_parts Try.infoStr
  go_enter Try.func30, Try.ntmps30
  go_wp2
  go_loopw [0, 3] (fun d v wr => ∃ (pre : List ByteArray) (r : ByteArray), d = .string r ∧ r.size ≤ s.size ∧ Keep (chunkS s.data.toList = pre ++ chunkS r.data.toList) ∧ wr.ownsRow w.heap.size 9 1 v pre.length (pre.map Value.string) ∧ Below w.heap.size w wr) (fun d _ _ => strSize d)
  case atStart =>
    refine ⟨[], s, rfl, Nat.le_refl _, ⟨rfl⟩, ?_, (Below.refl _ _).alloc (Nat.le_refl _) _⟩
    exact World.ownsRow_made w #[] 0 (Nat.le_refl _) (by decide) rfl
  case round =>
    obtain ⟨pre, r, rfl, hrs, hsp, hrow, hbel⟩ := hrel
    have hrl : r.data.toList.length = r.size := by simp
    by_cases hr0 : r.data.toList = []
    · have hz : ¬ (0 : Int) < (r.size : Int) := by rw [hr0] at hrl; simp at hrl; omega
      go_wp2
      go_ret
      have := hsp.out
      rw [hr0, chunkS_nil, List.append_nil] at this
      exact ⟨_, rfl, by rw [this]; exact hrow, hbel⟩
    · have hz : (0 : Int) < (r.size : Int) := by have := List.length_pos_iff.2 hr0; omega
      have hfl := first_le r.data.toList
      have hfp := first_pos hr0
      have hpl : pre.length < 1000000 := by
        have h1 := congrArg List.length hsp.out
        have h2 := chunkS_length s.data.toList
        rw [chunkS_cons hr0] at h1
        simp only [List.length_append, List.length_cons] at h1
        have h3 : s.data.toList.length = s.size := by simp
        omega
      go_wp2_with (first | (go_at_call 44; refine (refFirst_any r _ (by unfold maxLen; omega)).mono ?_; rintro e w' ⟨rfl, rfl⟩) | (at_builtin; refine wpList_append_own _ rfl _ _ 22 rfl w.heap.size 9 i0 (.string ⟨#[]⟩) 1 16 Try.underlying22 hi hz0 hz1 hz2 rfl (by decide) _ _ _ rfl (hrow.alloc _) ⟨wr.heap.size, 0, none⟩ 1 1 [.string (r.extract 0 (first r.data.toList))] rfl rfl (cell_one_new _ _ _) (by simp [Value.oneCell']) (by unfold maxLen; omega) (by omega) (by have := hbel.size; simp; omega) ?_; intro v' w1 hown' hgrow _))
      have hb1 := ((hbel.alloc (by have := hbel.size; omega) (.cells #[.string (r.extract 0 (first r.data.toList))] 9)).grown hgrow (by have := hbel.size; simp; omega) (fun k hk => (hrow.lt k hk).1))
      go_wp2
      go_roundw
      case rel =>
        refine ⟨pre ++ [r.extract 0 (first r.data.toList)], r.extract (first r.data.toList) r.size, rfl, ?_, ⟨?_⟩, by simpa using hown', hb1⟩
        · rw [extract_drop, size_mkS, List.length_drop]; omega
        · rw [hsp.out, chunkS_cons hr0, extract_take, extract_drop, data_mkS, List.append_assoc]; rfl
      case measure =>
        simp only [strSize]
        rw [extract_drop, size_mkS, List.length_drop]; omega
end Go.Proofs.Ytomlknjpaielgaa
