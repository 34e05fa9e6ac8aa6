/- The law SparseRoundTrip: the content is the content of its segments. No condition. -/
import Derived.Test.YtgoipkilpmjecaaSparseMore
import Derived.Test.YtgoipkilpmjecaaSparseSplitLaw
namespace Go.Proofs.Ytgoipkilpmjecaa
open Go.RowKit Go.Shelf Go.Proofs.Ytgoipkilpmjecaa.Sparse Go.ChangeShapes Go.WideShapes Go.ChangeAt

set_option maxHeartbeats 1000000 in
theorem sparseRoundTrip_any (v : Value) (l : List (ByteArray × Int)) (w : World) (hv : PartsIn w v l) :
    Calls Try.prog 5 #[v] w fun e w' => e = .returned (.bool true) ∧ Below w.heap.size w w' := by
  go_enter Try.func5, Try.ntmps5
  go_wp2_with fail
  refine (content_any v l w hv).mono ?_
  rintro e w1 ⟨s, ok, rfl, hok, hb1⟩
  have hz1 := hb1.size
  cases ok with
  | false =>
    clear hok
    go_wp2_with fail
    refine (awake_any _).mono ?_
    rintro e w2 ⟨rfl, hb2⟩
    go_wp2
    go_ret
    exact ⟨rfl, held_on hb2 hb1⟩
  | true =>
    have hs := hok rfl
    have hlen : s.data.toList.length ≤ 65536 := by rw [data_len']; omega
    have hj := joinL_segs hlen
    have hsl := sizeL_segs hlen
    rw [data_len'] at hsl
    have hnl : normL (segs s.data.toList) = segs s.data.toList := by unfold normL; rw [hj]; rfl
    clear hok
    go_wp2_with fail
    refine (segs_strs s w1 (by omega)).mono ?_
    rintro e w2 ⟨v2, rfl, hS2, hb2⟩
    have hB2 := Keep.mk (held_on hb2 hb1)
    have hJ := fun (u : Value) (wx : World) (hu : Segs wx u (segs s.data.toList)) => segJoin_any u (segs s.data.toList) wx hu
    have hZ := fun (u : Value) (wx : World) (hu : Segs wx u (segs s.data.toList)) => segSize_any u (segs s.data.toList) wx hu
    have hN := fun (u : Value) (wx : World) (hu : Segs wx u (segs s.data.toList)) => normalize_any u (segs s.data.toList) wx hu
    rw [hj] at hJ hN
    rw [hsl] at hZ
    rw [hnl] at hN
    dsimp only at hJ hZ hN
    rw [mkS_data] at hJ
    have hJ' := Keep.mk hJ
    have hZ' := Keep.mk hZ
    have hN' := Keep.mk hN
    clear hj hsl hnl hlen hJ hZ hN hb1 hb2
    generalize segs s.data.toList = x at *
    go_wp2_with fail
    refine (hJ'.out v2 w2 hS2).mono ?_
    rintro e w3 ⟨rfl, hb3⟩
    have hS3 := hS2.below hb3 (Nat.le_refl _)
    have hB3 := Keep.mk (held_on hb3 hB2.out)
    clear hb3 hB2 hS2
    go_wp2_with fail
    refine (hZ'.out v2 w3 hS3).mono ?_
    rintro e w4 ⟨rfl, hb4⟩
    have hS4 := hS3.below hb4 (Nat.le_refl _)
    have hB4 := Keep.mk (held_on hb4 hB3.out)
    clear hb4 hB3 hS3
    go_wp2_with fail
    refine (hN'.out v2 w4 hS4).mono ?_
    rintro e w5 ⟨u, rfl, hU, hb5⟩
    have hS5 := hS4.below hb5 (Nat.le_refl _)
    have hB5 := Keep.mk (held_on hb5 hB4.out)
    clear hb5 hB4 hS4
    go_wp2_with fail
    refine (segSame_any v2 u x x w5 hS5 hU).mono ?_
    rintro e w6 ⟨rfl, hb6⟩
    have hB6 := Keep.mk (held_on hb6 hB5.out)
    clear hb6 hB5 hS5
    go_wp2_with fail
    refine (awake_any _).mono ?_
    rintro e w7 ⟨rfl, hb7⟩
    go_wp2
    go_ret
    exact ⟨rfl, held_on hb7 hB6.out⟩

theorem SparseRoundTrip_walk : LawWalk 5 Try.f5 := by
  intro H enc W base args ds ps hval hA hsz
  rw [Try.params5] at hA hval hsz
  obtain ⟨v0, vs0, d0, ds0, p0, q0, hargs, rfl, rfl, h0, r0⟩ := trodAll_cons hA
  obtain ⟨rfl, rfl, rfl⟩ := trodAll_nil r0
  obtain rfl : args = #[v0] := by cases args; simp_all
  obtain ⟨l, hl⟩ := open_parts (hval 0 22 v0 rfl rfl) h0 (sized_each hsz (j := 0) rfl rfl)
  exact sparseRoundTrip_any v0 l W hl
end Go.Proofs.Ytgoipkilpmjecaa
namespace Go.Proofs.Ytgoipkilpmjecaa
open Go.ChangeShapes Go.WideShapes Go.ChangeAt Go.RowKit
set_option maxRecDepth 100000 in
theorem SparseRoundTrip_lifted (os : Os) (started : os.Started) (H : Type) (enc : TypeId × Value → H) :
    ReturnsInHanded {} Try.checked os 5 .any (Rows.sparseRoundTripSpec.pre6 enc Try.prog Try.f5 Rows.sparseRoundTripRow.domain false) (Rows.sparseRoundTripSpec.post enc Try.prog Try.f5 false true false false) := by
  refine returnsInHanded_of_change_sized (C := Try.checked) own started (by kernel_rfl) Try.func5
    (ChangeSpec.witness6 (enc := enc) (C := Try.checked) false ⟨#[], #[.slice none 0 0], []⟩ 8 (by kernel_rfl) (by kernel_rfl) (by kernel_rfl) (by kernel_rfl)) ?_
  exact law_contract (by kernel_rfl) (by kernel_rfl) ⟨rfl, fun H ds h => by rw [Try.params5] at h; match ds, h with | [d0], _ => rfl⟩ SparseRoundTrip_walk
theorem SparseRoundTrip_over : Rows.sparseRoundTripRow.holds Try.pinned (OpenSpec.ofChange Rows.sparseRoundTripSpec) :=
  OpenClaim.holds_of_wide 5 Try.f5 rfl rfl rfl rfl rfl rfl rfl ⟨rfl, rfl, rfl, rfl, rfl⟩ rfl rfl rfl rfl rfl (by kernel_rfl) Try.func5 (by kernel_rfl)
    (of_decide_eq_true (by kernel_rfl)) (by unfold Func.isWrapper; first | (rw [if_pos (by decide +kernel)]; kernel_rfl) | (rw [if_neg (by decide +kernel)]; exact ⟨rfl, rfl⟩))
    (fun os started H enc _ => SparseRoundTrip_lifted os started H enc)
theorem SparseRoundTrip_proved : Rows.SparseRoundTripSaid := SparseRoundTrip_over
end Go.Proofs.Ytgoipkilpmjecaa
