/- The law SparseEquality: segments have the same normal form if and only if they have the same content. Condition: what comes in is of bulk at most 1048576. -/
import Derived.Test.YtgoipkilpmjecaaSparseConcat
namespace Go.Proofs.Ytgoipkilpmjecaa
open Go.RowKit Go.Shelf Go.Proofs.Ytgoipkilpmjecaa.Sparse Go.ChangeShapes Go.WideShapes Go.ChangeAt

theorem normalize_ok (v : Value) (l : List Seg) (w : World) (hv : Segs w v l) (h : (sizeL l).2 = 0) :
    Calls Try.prog 19 #[v] w fun e w' => ∃ x, e = .returned (.tuple #[x, .int .i64 0]) ∧ Segs w' x (segs (expand l)) ∧ Below w.heap.size w w' := by
  have := normalize_any v l w hv
  rw [joinL_eq h] at this
  have hn : normL l = segs (expand l) := by unfold normL; rw [joinL_eq h]; rfl
  rwa [hn] at this
theorem normalize_some (v : Value) (l : List Seg) (w : World) (hv : Segs w v l) :
    Calls Try.prog 19 #[v] w fun e w' => (∃ x, e = .returned (.tuple #[x, .int .i64 (sizeL l).2])) ∧ Below w.heap.size w w' :=
  (normalize_any v l w hv).mono fun e w' ⟨x, he, _, hb⟩ => ⟨⟨x, by rw [he, joinL_err]⟩, hb⟩

set_option maxHeartbeats 2000000 in
theorem sparseEquality_any (u v : Value) (a b : List Seg) (w : World) (hu : Segs w u a) (hv : Segs w v b) (ha : a.length ≤ 1048576) (hb : b.length ≤ 1048576) (hd : ∀ s ∈ a ++ b, s.2.length ≤ reachBytes) :
    Calls Try.prog 6 #[u, v] w fun e w' => e = .returned (.bool true) ∧ Below w.heap.size w w' := by
  obtain ⟨i0, hi, hz0, hz1, hz2⟩ := info_parts Try.infoSeg
  have hz2' : i0.bytes = 24 := hz2
  have hw0 : Below w.heap.size w (w.alloc (.cells #[] 45)) := (Below.refl _ _).alloc (Nat.le_refl _) _
  have h0 : (w.alloc (.cells #[] 45)).ownsRow w.heap.size 45 2 (.slice (some ⟨w.heap.size, 0, none⟩) 0 0) 0 [] :=
    World.ownsRow_lit w #[] 0 (Nat.le_refl _) (by decide) rfl
  have hu0 := (hu.below hw0 (Nat.le_refl _)).slc
  have HU := Keep.mk hu
  have HV := Keep.mk hv
  clear hu hv
  go_enter Try.func6, Try.ntmps6
  go_wp2_with (first | (at_builtin; refine wpList_append_slc (o := ⟨some 15, _, _, _, _, _⟩) rfl _ _ 27 rfl w.heap.size 45 i0 (.agg #[.int .i64 0, .string ⟨#[]⟩]) 2 24 Try.underlying27 hi hz0 hz1 hz2' rfl (by decide) (.slice (some ⟨w.heap.size, 0, none⟩) 0 0) 0 [] rfl h0 u a.length (segCells a) rfl hu0 segCells_one (by unfold maxLen; omega) (by omega) (by simp) ?_; intro v1 w1 hown1 hg1 _; rw [Nat.zero_add, List.nil_append] at hown1; have hb1 := below_append hw0 (by simp) h0 (Nat.le_refl _) hg1; have hsl1 := (HV.out.below hb1 (Nat.le_refl _)).slc; have hl1 := hb1.size) | (at_builtin; refine wpList_append_slc (o := ⟨some 17, _, _, _, _, _⟩) rfl _ _ 27 rfl w.heap.size 45 i0 (.agg #[.int .i64 0, .string ⟨#[]⟩]) 2 24 Try.underlying27 hi hz0 hz1 hz2' rfl (by decide) v1 a.length (segCells a) rfl hown1 v b.length (segCells b) rfl hsl1 segCells_one (by unfold maxLen; omega) (by omega) hl1 ?_; intro v2 w2 hown2 hg2 _))
  have hb2 := below_append hb1 hl1 hown1 (Nat.le_refl _) hg2
  rw [← segCells_append] at hown2
  have hS2 := Segs.of_owns hown2
  have HD := Keep.mk hd
  have hU2 := HU.out.below hb2 (Nat.le_refl _)
  have hV2 := HV.out.below hb2 (Nat.le_refl _)
  have hB2 := Keep.mk hb2
  clear hown1 hown2 hg1 hg2 hb1 hb2 hsl1 hu0 h0 hw0 hl1 hi hz0 hz1 hz2 hz2' HU HV hd
  refine (great_any v2 (a ++ b) w2 hS2 HD.out).mono ?_
  rintro e w3 ⟨g, rfl, _, hb3⟩
  have hU3 := hU2.below hb3 (Nat.le_refl _)
  have hV3 := hV2.below hb3 (Nat.le_refl _)
  have hB3 := Keep.mk (held_on hb3 hB2.out)
  clear hS2 hU2 hV2 hB2 hb3 HD
  cases g with
  | true =>
    go_wp2_with fail
    refine (awake_any _).mono ?_
    rintro e w4 ⟨rfl, hb4⟩
    go_wp2
    go_ret
    exact ⟨rfl, held_on hb4 hB3.out⟩
  | false =>
    by_cases hab : (sizeL a).2 = 0 ∧ (sizeL b).2 = 0
    · obtain ⟨h1, h2⟩ := hab
      have J1 := Keep.mk (fun wx hx => segJoin_ok u a wx hx h1)
      have J2 := Keep.mk (fun wx hx => segJoin_ok v b wx hx h2)
      have N1 := Keep.mk (fun wx hx => normalize_ok u a wx hx h1)
      have N2 := Keep.mk (fun wx hx => normalize_ok v b wx hx h2)
      have hS := Keep.mk (fun x y wx hx hy => segSame_any x y (segs (expand a)) (segs (expand b)) wx hx hy)
      have heq : ((mkS (expand a)).toList == (mkS (expand b)).toList) = decide (segs (expand a) = segs (expand b)) := by
        rw [toList_beq, Bool.eq_iff_iff]
        simp only [decide_eq_true_eq]
        exact ⟨fun h => by rw [mkS_inj h], fun h => by rw [segs_inj h]⟩
      generalize mkS (expand a) = s at *
      generalize mkS (expand b) = t at *
      generalize segs (expand a) = x0 at *
      generalize segs (expand b) = y0 at *
      generalize decide (x0 = y0) = D at *
      clear h1 h2
      go_wp2_with fail
      refine (J1.out w3 hU3).mono ?_
      rintro e w4 ⟨rfl, hb4⟩
      have hU4 := hU3.below hb4 (Nat.le_refl _)
      have hV4 := hV3.below hb4 (Nat.le_refl _)
      have hB4 := Keep.mk (held_on hb4 hB3.out)
      clear hU3 hV3 hB3 hb4
      go_wp2_with fail
      refine (J2.out w4 hV4).mono ?_
      rintro e w5 ⟨rfl, hb5⟩
      have hU5 := hU4.below hb5 (Nat.le_refl _)
      have hV5 := hV4.below hb5 (Nat.le_refl _)
      have hB5 := Keep.mk (held_on hb5 hB4.out)
      clear hU4 hV4 hB4 hb5
      go_wp2_with fail
      refine (N1.out w5 hU5).mono ?_
      rintro e w6 ⟨x, rfl, hX6, hb6⟩
      have hV6 := hV5.below hb6 (Nat.le_refl _)
      have hB6 := Keep.mk (held_on hb6 hB5.out)
      clear hU5 hV5 hB5 hb6
      go_wp2_with fail
      refine (N2.out w6 hV6).mono ?_
      rintro e w7 ⟨y, rfl, hY7, hb7⟩
      have hX7 := hX6.below hb7 (Nat.le_refl _)
      have hB7 := Keep.mk (held_on hb7 hB6.out)
      clear hX6 hV6 hB6 hb7
      cases D with
      | true =>
        go_wp2_with fail
        refine (hS.out x y w7 hX7 hY7).mono ?_
        rintro e w8 ⟨rfl, hb8⟩
        have hB8 := Keep.mk (held_on hb8 hB7.out)
        clear hX7 hY7 hB7 hb8
        go_wp2_with fail
        refine (awake_any _).mono ?_
        rintro e w9 ⟨rfl, hb9⟩
        go_wp2
        go_ret
        exact ⟨rfl, held_on hb9 hB8.out⟩
      | false =>
        go_wp2_with fail
        refine (hS.out x y w7 hX7 hY7).mono ?_
        rintro e w8 ⟨rfl, hb8⟩
        have hB8 := Keep.mk (held_on hb8 hB7.out)
        clear hX7 hY7 hB7 hb8
        go_wp2_with fail
        refine (awake_any _).mono ?_
        rintro e w9 ⟨rfl, hb9⟩
        go_wp2
        go_ret
        exact ⟨rfl, held_on hb9 hB8.out⟩
    · have J1 := Keep.mk (fun wx hx => segJoin_some u a wx hx)
      have J2 := Keep.mk (fun wx hx => segJoin_some v b wx hx)
      have N1 := Keep.mk (fun wx hx => normalize_some u a wx hx)
      have N2 := Keep.mk (fun wx hx => normalize_some v b wx hx)
      have hor : ((sizeL a).2 != 0) = true ∨ ((sizeL a).2 != 0) = false ∧ ((sizeL b).2 != 0) = true := by
        by_cases h1 : (sizeL a).2 = 0
        · exact .inr ⟨by simp [h1], by simpa using fun h2 => hab ⟨h1, h2⟩⟩
        · exact .inl (by simp [h1])
      clear hab
      generalize (sizeL a).2 = ka at *
      generalize (sizeL b).2 = kb at *
      have HOR := Keep.mk hor
      clear hor
      go_wp2_with fail
      refine (J1.out w3 hU3).mono ?_
      rintro e w4 ⟨⟨s, rfl⟩, hb4⟩
      have hU4 := hU3.below hb4 (Nat.le_refl _)
      have hV4 := hV3.below hb4 (Nat.le_refl _)
      have hB4 := Keep.mk (held_on hb4 hB3.out)
      clear hU3 hV3 hB3 hb4
      go_wp2_with fail
      refine (J2.out w4 hV4).mono ?_
      rintro e w5 ⟨⟨t, rfl⟩, hb5⟩
      have hU5 := hU4.below hb5 (Nat.le_refl _)
      have hV5 := hV4.below hb5 (Nat.le_refl _)
      have hB5 := Keep.mk (held_on hb5 hB4.out)
      clear hU4 hV4 hB4 hb5
      go_wp2_with fail
      refine (N1.out w5 hU5).mono ?_
      rintro e w6 ⟨⟨x, rfl⟩, hb6⟩
      have hV6 := hV5.below hb6 (Nat.le_refl _)
      have hB6 := Keep.mk (held_on hb6 hB5.out)
      clear hU5 hV5 hB5 hb6
      go_wp2_with fail
      refine (N2.out w6 hV6).mono ?_
      rintro e w7 ⟨⟨y, rfl⟩, hb7⟩
      have hB7 := Keep.mk (held_on hb7 hB6.out)
      clear hV6 hB6 hb7
      rcases HOR.out with h1 | ⟨h1, h2⟩
      · go_wp2_with fail
        refine (awake_any _).mono ?_
        rintro e w8 ⟨rfl, hb8⟩
        go_wp2
        go_ret
        exact ⟨rfl, held_on hb8 hB7.out⟩
      · go_wp2_with fail
        refine (awake_any _).mono ?_
        rintro e w8 ⟨rfl, hb8⟩
        go_wp2
        go_ret
        exact ⟨rfl, held_on hb8 hB7.out⟩

theorem SparseEquality_walk : LawWalkU 6 Try.f6 := by
  intro H enc W base args ds ps hval hA hsz hk _
  rw [Try.params6] at hA hval hsz
  obtain ⟨v0, vs0, d0, ds0, p0, q0, hargs, rfl, rfl, h0, r0⟩ := trodAll_cons hA
  obtain ⟨v1, vs1, d1, ds1, p1, q1, rfl, rfl, rfl, h1, r1⟩ := trodAll_cons r0
  obtain ⟨rfl, rfl, rfl⟩ := trodAll_nil r1
  obtain rfl : args = #[v0, v1] := by cases args; simp_all
  obtain ⟨a, ha, hb, ea⟩ := open_segs (hval 0 27 v0 rfl rfl) h0 (sized_each hsz (j := 0) rfl rfl)
  obtain ⟨b, ha', hb', eb⟩ := open_segs (hval 1 27 v1 rfl rfl) h1 (sized_each hsz (j := 1) rfl rfl)
  exact sparseEquality_any v0 v1 a b W ha ha' (segs_bulk ea (bulk_each hk (by simp))) (segs_bulk eb (bulk_each hk (by simp))) (fun s hs => (List.mem_append.1 hs).elim (hb s) (hb' s))
end Go.Proofs.Ytgoipkilpmjecaa
namespace Go.Proofs.Ytgoipkilpmjecaa
open Go.ChangeShapes Go.WideShapes Go.ChangeAt Go.RowKit
set_option maxRecDepth 100000 in
theorem SparseEquality_lifted (os : Os) (started : os.Started) (H : Type) (enc : TypeId × Value → H) (F : Stop.Interp) :
    ReturnsInHanded {} Try.checked os 6 .any ((Rows.OpenSpec.upto Rows.sparseEqualitySpec).pre6 enc Try.prog Try.f6 Rows.sparseEqualityUptoRow.domain false) (((Rows.OpenSpec.upto Rows.sparseEqualitySpec).at F).post enc Try.prog Try.f6 false true false false) := by
  refine returns_upto (C := Try.checked) (s := Rows.OpenSpec.upto Rows.sparseEqualitySpec) (k := Rows.uptoSmall) rfl own started (by kernel_rfl) Try.func6
    (OpenSpec.witness (enc := enc) (C := Try.checked) (s := Rows.OpenSpec.upto Rows.sparseEqualitySpec) (k := Rows.uptoSmall) rfl false ⟨#[], #[.slice none 0 0, .slice none 0 0], []⟩ 8 (by kernel_rfl) (by kernel_rfl) (by kernel_rfl)
      (x := ([.nil, .nil], [], [])) (by kernel_rfl) rfl (by kernel_rfl)) ?_
  intro W base args ds gs before hval hW hk hsz hsh
  exact law_contract_upto (s := Rows.sparseEqualitySpec) (by kernel_rfl) (by kernel_rfl) ⟨rfl, fun H ds h => by rw [Try.params6] at h; match ds, h with | [d0, d1], _ => rfl⟩ SparseEquality_walk W base args ds gs before hval hW hk hsz hsh
theorem SparseEquality_proved : Rows.SparseEqualityUptoSaid :=
  OpenClaim.holds_of_cond 6 Try.f6 rfl rfl rfl rfl rfl rfl rfl ⟨rfl, rfl, rfl, rfl, rfl⟩ rfl rfl rfl rfl rfl (by kernel_rfl) Try.func6 (by kernel_rfl)
    (of_decide_eq_true (by kernel_rfl)) (by unfold Func.isWrapper; first | (rw [if_pos (by decide +kernel)]; kernel_rfl) | (rw [if_neg (by decide +kernel)]; exact ⟨rfl, rfl⟩))
    (fun os started H enc _ F => SparseEquality_lifted os started H enc F)
end Go.Proofs.Ytgoipkilpmjecaa
