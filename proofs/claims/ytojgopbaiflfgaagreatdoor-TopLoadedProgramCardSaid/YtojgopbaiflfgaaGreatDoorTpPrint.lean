/- plainframe.printable, check of a whole frame. Condition: bounds on lengths. -/
import Derived.Test.YtojgopbaiflfgaaGreatDoorTpSeal
namespace Go.Proofs.YtojgopbaiflfgaaGreatDoor
set_option maxRecDepth 100000
open Go.RowKit Go.Shelf

def okC (c : UInt8) : Bool := decide (32 ≤ c.toNat) && decide (c.toNat ≤ 126)
def printB (s : ByteArray) : Bool := s.data.toList.all okC
set_option maxHeartbeats 4000000 in
theorem printable_any (s : ByteArray) (hs : s.size ≤ maxLen) (w : World) : Calls Tryz.prog 27 #[.string s] w fun e w' => e = .returned (.bool (printB s)) ∧ w' = w := by
  unfold maxLen at hs
  obtain ⟨q, hq⟩ : ∃ q, q = printB s := ⟨_, rfl⟩
  rw [← hq]
  have YES : Keep ((∀ j b, j < s.size → s.data.toList[j]? = some b → okC b = true) → q = true) := ⟨fun h => by
    rw [hq]
    unfold printB
    rw [List.all_eq_true]
    intro c hc
    obtain ⟨j, hj⟩ := List.getElem?_of_mem hc
    exact h j c (by have := (List.getElem?_eq_some_iff.1 hj).1; simpa using this) hj⟩
  have NO : Keep (∀ c, c ∈ s.data.toList → okC c = false → q = false) := ⟨fun c hc ho => by
    rw [hq]
    unfold printB
    rw [List.all_eq_false]
    exact ⟨c, hc, by simp [ho]⟩⟩
  clear hq
  go_enter Tryz.func27, Tryz.ntmps27
  go_wp2_with fail
  go_loop [6] (fun i => ∃ k : Nat, k ≤ s.size ∧ i = .int .i64 k ∧ Keep (∀ j b, j < k → s.data.toList[j]? = some b → okC b = true)) (fun i => s.size - (intOf i).toNat)
  case atStart => exact ⟨0, Nat.zero_le _, rfl, ⟨fun j b h => absurd h (Nat.not_lt_zero j)⟩⟩
  case round =>
    obtain ⟨k, hk, rfl, HF⟩ := hrel
    by_cases hlt : k < s.size
    · have k0 : (0 : Int) ≤ k := by omega
      have k1 : (k : Int) < s.size := by omega
      have HM := Keep.mk (ba_mem s k hlt)
      have HG : Keep (s.data.toList[k]? = some s[k]) := ⟨by rw [List.getElem?_eq_getElem (by simpa using hlt)]; rfl⟩
      by_cases g1 : s[k].toNat < 32
      · have f1 : (s[k].toNat : Int) < 32 := by omega
        have HE := Keep.mk (NO.out _ HM.out (by unfold okC; rw [decide_eq_false (by omega), Bool.false_and]))
        clear g1
        go_wp2_with fail
        go_ret
        exact ⟨by rw [HE.out]; rfl, rfl⟩
      · have f1 : ¬ (s[k].toNat : Int) < 32 := by omega
        by_cases g2 : 126 < s[k].toNat
        · have f2 : (126 : Int) < (s[k].toNat : Int) := by omega
          have HE := Keep.mk (NO.out _ HM.out (by unfold okC; rw [decide_eq_false (show ¬ s[k].toNat ≤ 126 by omega), Bool.and_false]))
          clear g1 g2
          go_wp2_with fail
          go_ret
          exact ⟨by rw [HE.out]; rfl, rfl⟩
        · have f2 : ¬ (126 : Int) < (s[k].toNat : Int) := by omega
          have HF1 : Keep (∀ j b, j < k + 1 → s.data.toList[j]? = some b → okC b = true) := ⟨fun j b hj hb => by
            by_cases h : j < k
            · exact HF.out j b h hb
            · obtain rfl : j = k := by omega
              rw [HG.out] at hb
              cases hb
              unfold okC
              rw [decide_eq_true (show 32 ≤ s[j].toNat by omega), decide_eq_true (show s[j].toNat ≤ 126 by omega)]
              rfl⟩
          clear g1 g2
          go_wp2_with fail
          go_round
          case rel => exact ⟨k + 1, by omega, by go_num, HF1⟩
          case measure => simp [intOf]; omega
    · obtain rfl : k = s.size := by omega
      have HE := Keep.mk (YES.out HF.out)
      go_wp2_with fail
      go_ret
      exact ⟨by rw [HE.out]; rfl, rfl⟩
/-- A piece of a program's text: its number, how many there are, 64 signs. -/
structure PieceOk (idx tot : Nat) (text : ByteArray) : Prop where
  t1 : 1 ≤ tot
  t2 : tot ≤ 99999
  i1 : idx < tot
  len : text.size = 64
  pr : printB text = true
set_option maxHeartbeats 1000000 in
theorem pcheck_any (arch : Int) (idx tot : Nat) (text : ByteArray) (h : PieceOk idx tot text) (w : World) :
    Calls Tryz.prog 28 #[.agg #[.int .u32 arch, .int .i64 idx, .int .i64 tot, .string text]] w fun e w' => e = .returned (.int .i64 0) ∧ Below w.heap.size w w' := by
  obtain ⟨h1, h2, h3, h4, h5⟩ := h
  have HP := Keep.mk (fun w => printable_any text (by unfold maxLen; omega) w)
  rw [h5] at HP
  have HB : Keep (Below w.heap.size w (w.alloc (.cells #[.int .u32 arch, .int .i64 idx, .int .i64 tot, .string text] 53))) := ⟨(Below.refl _ _).alloc (Nat.le_refl _) _⟩
  have f1 : ¬ (tot : Int) < 1 := by omega
  have f2 : ¬ (99999 : Int) < tot := by omega
  have f3 : ¬ (idx : Int) < 0 := by omega
  have f4 : ¬ (tot : Int) ≤ idx := by omega
  have f5 : ((text.size : Int) != 64) = false := by rw [h4]; rfl
  clear h1 h2 h3 h5
  go_enter Tryz.func28, Tryz.ntmps28
  go_wp2_with fail
  refine (HP.out _).mono ?_
  rintro _ w2 ⟨rfl, rfl⟩
  go_wp2_with fail
  go_ret
  exact ⟨rfl, HB.out⟩
end Go.Proofs.YtojgopbaiflfgaaGreatDoor
