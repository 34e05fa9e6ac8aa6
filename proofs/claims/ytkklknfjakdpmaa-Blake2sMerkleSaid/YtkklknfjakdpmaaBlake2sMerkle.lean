/- The law Blake2sMerkle: Merkle agrees with the reference implementation. No condition. -/
import Derived.Test.YtkklknfjakdpmaaB2Merkle
import Derived.Test.YtkklknfjakdpmaaOpenStrs
namespace Go.Proofs.Ytkklknfjakdpmaa
open Go.RowKit Go.Shelf Go.Proofs.Ytkklknfjakdpmaa.B2 Go.ChangeShapes Go.WideShapes Go.ChangeAt
open Go.ChangeMaps (open_string shut_string)

set_option maxHeartbeats 2000000 in
theorem blake2sMerkle_any {w : World} {v : Value} {l : List ByteArray} (hS : Strs w v l) : Calls Try.prog 9 #[v] w fun e w' => e = .returned (.bool true) ∧ Below w.heap.size w w' := by
  have HS := Keep.mk hS
  clear hS
  go_enter Try.func9, Try.ntmps9
  go_wp2_with fail
  refine (alive_any _).mono ?_
  rintro e w1 ⟨rfl, hb1⟩
  have S1 := Keep.mk (HS.out.below hb1 (Nat.le_refl _))
  have B1 := Keep.mk hb1
  clear hb1 HS
  go_wp2_with fail
  refine (great_any S1.out).mono ?_
  rintro e w2 ⟨⟨g, rfl, hg⟩, rfl⟩
  cases g with
  | true =>
    clear hg
    go_wp2
    go_ret
    exact ⟨rfl, B1.out⟩
  | false =>
    obtain ⟨h1, h2⟩ := hg rfl
    clear hg
    go_wp2_with fail
    refine (merkle_any l.length l v w1 (Nat.le_refl _) (by omega) (by omega) S1.out).mono ?_
    rintro e w2 ⟨rfl, hb2⟩
    have S2 := Keep.mk (S1.out.below hb2 (Nat.le_refl _))
    have B2 := Keep.mk (B1.out.trans (hb2.mono B1.out.size))
    clear hb2 S1 B1
    go_wp2_with fail
    refine (refMerkle_any l.length l v w2 (Nat.le_refl _) (by omega) (by omega) S2.out).mono ?_
    rintro e w3 ⟨rfl, hb3⟩
    have B3 := Keep.mk (B2.out.trans (hb3.mono B2.out.size))
    clear hb3 S2 B2 h1 h2
    go_wp2
    go_ret
    exact ⟨by simp, B3.out⟩

theorem Blake2sMerkle_walk : LawWalk 9 Try.f9 := by
  intro H enc W base args ds ps hval hA hsz
  rw [Try.params9] at hA hval hsz
  obtain ⟨v0, vs0, d0, ds0, p0, q0, hargs, rfl, rfl, h0, r0⟩ := trodAll_cons hA
  obtain ⟨rfl, rfl, rfl⟩ := trodAll_nil r0
  obtain rfl : args = #[v0] := by cases args; simp_all
  obtain ⟨l, k1, _⟩ := open_strs0 (hval 0 22 v0 rfl rfl) h0 (sized_each hsz (j := 0) rfl rfl)
  exact blake2sMerkle_any k1
end Go.Proofs.Ytkklknfjakdpmaa
namespace Go.Proofs.Ytkklknfjakdpmaa
open Go.ChangeShapes Go.WideShapes Go.ChangeAt Go.RowKit
set_option maxRecDepth 100000 in
theorem Blake2sMerkle_lifted (os : Os) (started : os.Started) (H : Type) (enc : TypeId × Value → H) :
    ReturnsInHanded {} Try.checked os 9 .any (Rows.blake2sMerkleSpec.pre6 enc Try.prog Try.f9 Rows.blake2sMerkleRow.domain false) (Rows.blake2sMerkleSpec.post enc Try.prog Try.f9 false true false false) := by
  refine returnsInHanded_of_change_sized (C := Try.checked) own started (by kernel_rfl) Try.func9
    (ChangeSpec.witness6 (enc := enc) (C := Try.checked) false ⟨#[], #[.slice none 0 0], []⟩ 8 (by kernel_rfl) (by kernel_rfl) (by kernel_rfl) (by kernel_rfl)) ?_
  exact law_contract (by kernel_rfl) (by kernel_rfl) ⟨rfl, fun H ds h => by rw [Try.params9] at h; match ds, h with | [d0], _ => rfl⟩ Blake2sMerkle_walk
theorem Blake2sMerkle_over : Rows.blake2sMerkleRow.holds Try.pinned (OpenSpec.ofChange Rows.blake2sMerkleSpec) :=
  OpenClaim.holds_of_wide 9 Try.f9 rfl rfl rfl rfl rfl rfl rfl ⟨rfl, rfl, rfl, rfl, rfl⟩ rfl rfl rfl rfl rfl (by kernel_rfl) Try.func9 (by kernel_rfl)
    (of_decide_eq_true (by kernel_rfl)) (by unfold Func.isWrapper; first | (rw [if_pos (by decide +kernel)]; kernel_rfl) | (rw [if_neg (by decide +kernel)]; exact ⟨rfl, rfl⟩))
    (fun os started H enc _ => Blake2sMerkle_lifted os started H enc)
theorem Blake2sMerkle_proved : Rows.Blake2sMerkleSaid := Blake2sMerkle_over
end Go.Proofs.Ytkklknfjakdpmaa
