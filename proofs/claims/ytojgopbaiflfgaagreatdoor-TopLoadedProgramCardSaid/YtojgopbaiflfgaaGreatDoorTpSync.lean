/- The marks of plain frames. Condition: bounds on lengths. -/
import Derived.Test.YtojgopbaiflfgaaGreatDoorTpCrc
namespace Go.Proofs.YtojgopbaiflfgaaGreatDoor
set_option maxRecDepth 100000
open Go.RowKit Go.Shelf

def markP : ByteArray := ⟨#[48, 48, 48, 48, 48, 49, 49, 48, 48, 49, 48, 49, 48, 49, 49, 49]⟩
def isPlainB (s : ByteArray) (k : Nat) : Bool := decide (k + 16 ≤ s.size) && decide (s.extract k (k + 16) = markP)
theorem eqsT {k : ByteArray} {l : List UInt8} (x : ByteArray) (hk : k.toList = l) : (x.toList == l) = decide (x = k) := by rw [← hk, toList_beq]
theorem plainMark_any (w : World) : Calls Tryz.prog 30 #[] w fun e w' => e = .returned (.string markP) ∧ w' = w := by
  go_enter Tryz.func30, Tryz.ntmps30
  go_wp2_with fail
  go_ret
  exact ⟨rfl, rfl⟩
theorem within_any (s : ByteArray) (k : Nat) (hs : s.size ≤ maxLen) (hk : k ≤ maxLen) (w : World) : Calls Tryz.prog 18 #[.string s, .int .i64 k] w fun e w' => e = .returned (.bool (decide (k + 16 ≤ s.size))) ∧ w' = w := by
  unfold maxLen at hs hk
  have k0 : (0 : Int) ≤ k := by omega
  by_cases h1 : k ≤ s.size
  · have f1 : (k : Int) ≤ s.size := by omega
    have f2 : IntKind.i64.wrap ((s.size : Int) - k) = s.size - k := IntWalk.i64_in _ (by omega)
    by_cases h2 : k + 16 ≤ s.size
    · have f3 : (16 : Int) ≤ (s.size : Int) - k := by omega
      have HE : Keep (decide (k + 16 ≤ s.size) = true) := ⟨decide_eq_true h2⟩
      rw [HE.out]
      clear h1 h2 HE
      go_enter Tryz.func18, Tryz.ntmps18
      go_wp2_with fail
      go_ret
      exact ⟨rfl, rfl⟩
    · have f3 : ¬ (16 : Int) ≤ (s.size : Int) - k := by omega
      have HE : Keep (decide (k + 16 ≤ s.size) = false) := ⟨decide_eq_false h2⟩
      rw [HE.out]
      clear h1 h2 HE
      go_enter Tryz.func18, Tryz.ntmps18
      go_wp2_with fail
      go_ret
      exact ⟨rfl, rfl⟩
  · have f1 : ¬ (k : Int) ≤ s.size := by omega
    have HE : Keep (decide (k + 16 ≤ s.size) = false) := ⟨decide_eq_false (by omega)⟩
    rw [HE.out]
    clear h1 HE
    go_enter Tryz.func18, Tryz.ntmps18
    go_wp2_with fail
    go_ret
    exact ⟨rfl, rfl⟩
theorem isPlain_any (s : ByteArray) (k : Nat) (hs : s.size ≤ maxLen) (hk : k ≤ 1000000000) (w : World) : Calls Tryz.prog 7 #[.string s, .int .i64 k] w fun e w' => e = .returned (.bool (isPlainB s k)) ∧ w' = w := by
  have HW := Keep.mk (within_any s k hs (by unfold maxLen; omega) w)
  unfold maxLen at hs
  have k0 : (0 : Int) ≤ k := by omega
  by_cases h2 : k + 16 ≤ s.size
  · rw [decide_eq_true h2] at HW
    have f1 : (k : Int) + 16 ≤ s.size := by omega
    have f2 : IntKind.i64.wrap ((k : Int) + 16) = k + 16 := IntWalk.i64_in _ (by omega)
    have f3 : (k : Int) ≤ (k : Int) + 16 := by omega
    have HE : Keep (isPlainB s k = decide (s.extract k (k + 16) = markP)) := ⟨by unfold isPlainB; rw [decide_eq_true h2, Bool.true_and]⟩
    clear h2
    go_enter Tryz.func7, Tryz.ntmps7
    go_wp2_with fail
    refine HW.out.mono ?_
    rintro _ w2 ⟨rfl, rfl⟩
    go_wp2_with fail
    go_ret
    exact ⟨by rw [HE.out, ← eqsT (s.extract k (k + 16)) (l := [48, 48, 48, 48, 48, 49, 49, 48, 48, 49, 48, 49, 48, 49, 49, 49]) (by decide +kernel)]; rfl, rfl⟩
  · rw [decide_eq_false h2] at HW
    have HE : Keep (isPlainB s k = false) := ⟨by unfold isPlainB; rw [decide_eq_false h2, Bool.false_and]⟩
    clear h2
    go_enter Tryz.func7, Tryz.ntmps7
    go_wp2_with fail
    refine HW.out.mono ?_
    rintro _ w2 ⟨rfl, rfl⟩
    go_wp2_with fail
    go_ret
    exact ⟨by rw [HE.out]; rfl, rfl⟩
end Go.Proofs.YtojgopbaiflfgaaGreatDoor
