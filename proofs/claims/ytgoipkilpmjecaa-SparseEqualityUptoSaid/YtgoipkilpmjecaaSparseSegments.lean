/- The law SparseSegments: Join, Size, Normalize and Read return the results of the reference implementation. No condition. -/
import Derived.Test.YtgoipkilpmjecaaSegOpen
namespace Go.Proofs.Ytgoipkilpmjecaa
open Go.RowKit Go.Shelf Go.Proofs.Ytgoipkilpmjecaa.Sparse Go.ChangeShapes Go.WideShapes Go.ChangeAt

set_option maxHeartbeats 2000000 in
theorem sparseSegments_any (v : Value) (l : List Seg) (a n : Int) (w : World) (hv : Segs w v l) (hd : ∀ s ∈ l, s.2.length ≤ reachBytes) :
    Calls Try.prog 8 #[v, .int .i64 a, .int .i64 n] w fun e w' => e = .returned (.bool true) ∧ Below w.heap.size w w' := by
  go_enter Try.func8, Try.ntmps8
  go_wp2_with fail
  refine (great_any v l w hv hd).mono ?_
  rintro e w1 ⟨g, rfl, _, hb1⟩
  clear hd
  have hS1 := hv.below hb1 (Nat.le_refl _)
  cases g with
  | true =>
    go_wp2_with fail
    refine (awake_any _).mono ?_
    rintro e w2 ⟨rfl, hb2⟩
    go_wp2
    go_ret
    exact ⟨rfl, held_on hb2 hb1⟩
  | false =>
    have hB1 := Keep.mk hb1
    clear hb1 hv
    have hJ := Keep.mk (fun wx hx => segJoin_any v l wx hx)
    have hJ' := Keep.mk (fun wx hx => refJoin_any v l wx hx)
    have hZ := Keep.mk (fun wx hx => segSize_any v l wx hx)
    have hZ' := Keep.mk (fun wx hx => refSize_any v l wx hx)
    have hN := Keep.mk (fun wx hx => normalize_any v l wx hx)
    have hN' := Keep.mk (fun wx hx => refNormalize_any v l wx hx)
    have hR := Keep.mk (fun wx hx => read_any v l a n wx hx)
    have hR' := Keep.mk (fun wx hx => refRead_any v l a n wx hx)
    generalize joinL l = j at *
    generalize sizeL l = z at *
    generalize normL l = m at *
    generalize readL l a n = r at *
    generalize mkS j.1 = j1 at *
    generalize j.2 = j2 at *
    generalize z.1 = z1 at *
    generalize z.2 = z2 at *
    generalize mkS r.1 = r1 at *
    generalize r.2 = r2 at *
    go_wp2_with fail
    refine (hJ.out w1 hS1).mono ?_
    rintro e w2 ⟨rfl, hb2⟩
    have hS2 := hS1.below hb2 (Nat.le_refl _)
    have hB2 := Keep.mk (held_on hb2 hB1.out)
    clear hb2 hS1 hB1
    go_wp2_with fail
    refine (hJ'.out w2 hS2).mono ?_
    rintro e w3 ⟨rfl, hb3⟩
    have hS3 := hS2.below hb3 (Nat.le_refl _)
    have hB3 := Keep.mk (held_on hb3 hB2.out)
    clear hb3 hS2 hB2
    go_wp2_with fail
    refine (hZ.out w3 hS3).mono ?_
    rintro e w4 ⟨rfl, hb4⟩
    have hS4 := hS3.below hb4 (Nat.le_refl _)
    have hB4 := Keep.mk (held_on hb4 hB3.out)
    clear hb4 hS3 hB3
    go_wp2_with fail
    refine (hZ'.out w4 hS4).mono ?_
    rintro e w5 ⟨rfl, hb5⟩
    have hS5 := hS4.below hb5 (Nat.le_refl _)
    have hB5 := Keep.mk (held_on hb5 hB4.out)
    clear hb5 hS4 hB4
    go_wp2_with fail
    refine (hN.out w5 hS5).mono ?_
    rintro e w6 ⟨x, rfl, hX6, hb6⟩
    have hS6 := hS5.below hb6 (Nat.le_refl _)
    have hB6 := Keep.mk (held_on hb6 hB5.out)
    clear hb6 hS5 hB5
    go_wp2_with fail
    refine (hN'.out w6 hS6).mono ?_
    rintro e w7 ⟨y, rfl, hY7, hb7⟩
    have hS7 := hS6.below hb7 (Nat.le_refl _)
    have hX7 := hX6.below hb7 (Nat.le_refl _)
    have hB7 := Keep.mk (held_on hb7 hB6.out)
    clear hb7 hS6 hB6 hX6
    go_wp2_with fail
    refine (hR.out w7 hS7).mono ?_
    rintro e w8 ⟨rfl, hb8⟩
    have hS8 := hS7.below hb8 (Nat.le_refl _)
    have hX8 := hX7.below hb8 (Nat.le_refl _)
    have hY8 := hY7.below hb8 (Nat.le_refl _)
    have hB8 := Keep.mk (held_on hb8 hB7.out)
    clear hb8 hS7 hB7 hX7 hY7
    go_wp2_with fail
    refine (hR'.out w8 hS8).mono ?_
    rintro e w9 ⟨rfl, hb9⟩
    have hX9 := hX8.below hb9 (Nat.le_refl _)
    have hY9 := hY8.below hb9 (Nat.le_refl _)
    have hB9 := Keep.mk (held_on hb9 hB8.out)
    clear hb9 hS8 hB8 hX8 hY8
    go_wp2_with fail
    refine (segSame_any x y m m w9 hX9 hY9).mono ?_
    rintro e w10 ⟨rfl, hb10⟩
    have hB10 := Keep.mk (held_on hb10 hB9.out)
    clear hb10 hB9 hX9 hY9
    go_wp2_with fail
    refine (awake_any _).mono ?_
    rintro e w11 ⟨rfl, hb11⟩
    go_wp2
    go_ret
    exact ⟨rfl, held_on hb11 hB10.out⟩

theorem SparseSegments_walk : LawWalk 8 Try.f8 := by
  intro H enc W base args ds ps hval hA hsz
  rw [Try.params8] at hA hval hsz
  obtain ⟨v0, vs0, d0, ds0, p0, q0, hargs, rfl, rfl, h0, r0⟩ := trodAll_cons hA
  obtain ⟨v1, vs1, d1, ds1, p1, q1, rfl, rfl, rfl, h1, r1⟩ := trodAll_cons r0
  obtain ⟨v2, vs2, d2, ds2, p2, q2, rfl, rfl, rfl, h2, r2⟩ := trodAll_cons r1
  obtain ⟨rfl, rfl, rfl⟩ := trodAll_nil r2
  obtain rfl : args = #[v0, v1, v2] := by cases args; simp_all
  obtain ⟨l, hl, hb, _⟩ := open_segs (hval 0 27 v0 rfl rfl) h0 (sized_each hsz (j := 0) rfl rfl)
  obtain ⟨a, rfl, _, _, _⟩ := open_int Try.underlying3 (hval 1 3 v1 rfl rfl) h1
  obtain ⟨n, rfl, _, _, _⟩ := open_int Try.underlying3 (hval 2 3 v2 rfl rfl) h2
  exact sparseSegments_any v0 l a n W hl hb
end Go.Proofs.Ytgoipkilpmjecaa
namespace Go.Proofs.Ytgoipkilpmjecaa
open Go.ChangeShapes Go.WideShapes Go.ChangeAt Go.RowKit
set_option maxRecDepth 100000 in
theorem SparseSegments_lifted (os : Os) (started : os.Started) (H : Type) (enc : TypeId × Value → H) :
    ReturnsInHanded {} Try.checked os 8 .any (Rows.sparseSegmentsSpec.pre6 enc Try.prog Try.f8 Rows.sparseSegmentsRow.domain false) (Rows.sparseSegmentsSpec.post enc Try.prog Try.f8 false true false false) := by
  refine returnsInHanded_of_change_sized (C := Try.checked) own started (by kernel_rfl) Try.func8
    (ChangeSpec.witness6 (enc := enc) (C := Try.checked) false ⟨#[], #[.slice none 0 0, .int .i64 0, .int .i64 0], []⟩ 8 (by kernel_rfl) (by kernel_rfl) (by kernel_rfl) (by kernel_rfl)) ?_
  exact law_contract (by kernel_rfl) (by kernel_rfl) ⟨rfl, fun H ds h => by rw [Try.params8] at h; match ds, h with | [d0, d1, d2], _ => rfl⟩ SparseSegments_walk
theorem SparseSegments_over : Rows.sparseSegmentsRow.holds Try.pinned (OpenSpec.ofChange Rows.sparseSegmentsSpec) :=
  OpenClaim.holds_of_wide 8 Try.f8 rfl rfl rfl rfl rfl rfl rfl ⟨rfl, rfl, rfl, rfl, rfl⟩ rfl rfl rfl rfl rfl (by kernel_rfl) Try.func8 (by kernel_rfl)
    (of_decide_eq_true (by kernel_rfl)) (by unfold Func.isWrapper; first | (rw [if_pos (by decide +kernel)]; kernel_rfl) | (rw [if_neg (by decide +kernel)]; exact ⟨rfl, rfl⟩))
    (fun os started H enc _ => SparseSegments_lifted os started H enc)
theorem SparseSegments_proved : Rows.SparseSegmentsSaid := SparseSegments_over
end Go.Proofs.Ytgoipkilpmjecaa
