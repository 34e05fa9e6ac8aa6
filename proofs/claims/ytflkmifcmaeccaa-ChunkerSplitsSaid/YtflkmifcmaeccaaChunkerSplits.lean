/- The law ChunkerSplits: First and Split agree with the reference for every string. No condition. -/
import Derived.Test.YtflkmifcmaeccaaChunkAlive
import Derived.Test.YtflkmifcmaeccaaLaw
namespace Go.Proofs.Ytflkmifcmaeccaa
open Go.RowKit Go.Shelf Go.Proofs.Ytflkmifcmaeccaa.Chunk Go.ChangeShapes Go.WideShapes Go.ChangeAt
open Go.ChangeMaps (open_string shut_string)

set_option maxHeartbeats 1000000 in
theorem chunkerSplits_any (s : ByteArray) (w : World) (hs : s.size ≤ maxLen) :
    Calls Try.prog 3 #[.string s] w fun e w' => e = .returned (.bool true) ∧ Below w.heap.size w w' := by
  have hm := hs
  unfold maxLen at hm
  by_cases hbig : 20000 < s.size
  · have hb : (20000 : Int) < (s.size : Int) := by omega
    go_enter Try.func3, Try.ntmps3
    go_wp2_with (go_at_call 9; refine (alive_any _).mono ?_; rintro e w1 ⟨rfl, hb1⟩)
    go_ret
    exact ⟨rfl, hb1⟩
  · have hb : ¬ (20000 : Int) < (s.size : Int) := by omega
    go_enter Try.func3, Try.ntmps3
    go_wp2_with fail
    refine (alive_any _).mono ?_
    rintro e w1 ⟨rfl, hb1⟩
    go_wp2_with fail
    refine (first_any s _ hs).mono ?_
    rintro e w' ⟨rfl, rfl⟩
    go_wp2_with fail
    refine (refFirst_any s _ hs).mono ?_
    rintro e w' ⟨rfl, rfl⟩
    go_wp2_with fail
    refine (split_any s _ (by omega)).mono ?_
    rintro e w2 ⟨v, rfl, hrow, hb2⟩
    have hS := Strs.of_owns hrow
    clear hrow
    go_wp2_with fail
    refine (refSplit_any s _ (by omega)).mono ?_
    rintro e w3 ⟨v', rfl, hrow', hb3⟩
    have hS' := Strs.of_owns hrow'
    have hS3 := hS.below hb3 (Nat.le_refl _)
    clear hrow' hS
    go_wp2_with fail
    refine (same_any _ _ _ _ w3 hS3 hS').mono ?_
    rintro e w4 ⟨rfl, hb4⟩
    go_wp2
    go_ret
    have h1 := hb1.size
    have h2 := hb2.size
    have h3 := hb3.size
    exact ⟨by simp, ((hb1.trans (hb2.mono h1)).trans (hb3.mono (by omega))).trans (hb4.mono (by omega))⟩

theorem ChunkerSplits_walk : LawWalk 3 Try.f3 := by
  intro H enc W base args ds ps hval hA _
  rw [Try.params3] at hA hval
  obtain ⟨v0, vs0, d0, ds0, p0, q0, hargs, rfl, rfl, h0, r0⟩ := trodAll_cons hA
  obtain ⟨rfl, rfl, rfl⟩ := trodAll_nil r0
  obtain rfl : args = #[v0] := by cases args; simp_all
  obtain ⟨s, rfl, rfl, rfl, hs⟩ := open_string Try.underlying9 (hval 0 9 v0 rfl rfl) h0
  exact chunkerSplits_any s W hs
end Go.Proofs.Ytflkmifcmaeccaa
namespace Go.Proofs.Ytflkmifcmaeccaa
open Go.ChangeShapes Go.WideShapes Go.ChangeAt Go.RowKit
set_option maxRecDepth 100000 in
theorem ChunkerSplits_lifted (os : Os) (started : os.Started) (H : Type) (enc : TypeId × Value → H) :
    ReturnsInHanded {} Try.checked os 3 .any (Rows.chunkerSplitsSpec.pre6 enc Try.prog Try.f3 Rows.chunkerSplitsRow.domain false) (Rows.chunkerSplitsSpec.post enc Try.prog Try.f3 false true false false) := by
  refine returnsInHanded_of_change_sized (C := Try.checked) own started (by kernel_rfl) Try.func3
    (ChangeSpec.witness6 (enc := enc) (C := Try.checked) false ⟨#[], #[.string ⟨#[]⟩], []⟩ 8 (by kernel_rfl) (by kernel_rfl) (by kernel_rfl) (by kernel_rfl)) ?_
  exact law_contract (by kernel_rfl) (by kernel_rfl) ⟨rfl, fun H ds h => by rw [Try.params3] at h; match ds, h with | [d0], _ => rfl⟩ ChunkerSplits_walk
theorem ChunkerSplits_over : Rows.chunkerSplitsRow.holds Try.pinned (OpenSpec.ofChange Rows.chunkerSplitsSpec) :=
  OpenClaim.holds_of_wide 3 Try.f3 rfl rfl rfl rfl rfl rfl rfl ⟨rfl, rfl, rfl, rfl, rfl⟩ rfl rfl rfl rfl rfl (by kernel_rfl) Try.func3 (by kernel_rfl)
    (of_decide_eq_true (by kernel_rfl)) (by unfold Func.isWrapper; first | (rw [if_pos (by decide +kernel)]; kernel_rfl) | (rw [if_neg (by decide +kernel)]; exact ⟨rfl, rfl⟩))
    (fun os started H enc _ => ChunkerSplits_lifted os started H enc)
theorem ChunkerSplits_proved : Rows.ChunkerSplitsSaid := ChunkerSplits_over
end Go.Proofs.Ytflkmifcmaeccaa
