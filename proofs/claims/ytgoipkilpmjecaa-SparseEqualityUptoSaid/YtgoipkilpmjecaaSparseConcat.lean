/- The law SparseConcatenation: the content of two lists of segments together is the concatenation of their contents. Condition: what comes in is of bulk at most 1048576. -/
import Derived.Test.YtgoipkilpmjecaaSparseRead
import Derived.Test.YtgoipkilpmjecaaSlc
import Derived.Test.YtgoipkilpmjecaaLawUpto
namespace Go.Proofs.Ytgoipkilpmjecaa
open Go.RowKit Go.Shelf Go.Proofs.Ytgoipkilpmjecaa.Sparse Go.ChangeShapes Go.WideShapes Go.ChangeAt

theorem segCells_one {l : List Seg} : ∀ x ∈ segCells l, x.oneCell' = true := by
  intro x hx
  simp only [segCells, List.mem_flatMap] at hx
  obtain ⟨s, _, hs⟩ := hx
  simp only [List.mem_cons, List.not_mem_nil, or_false] at hs
  rcases hs with rfl | rfl <;> rfl
theorem segCells_at {l : List Seg} {j : Nat} {u : Value} (h : (segCells l)[j]? = some u) : ∃ i s, l[i]? = some s ∧ ((j = i * 2 ∧ u = .int .i64 s.1) ∨ (j = i * 2 + 1 ∧ u = .string (mkS s.2))) := by
  have hj := (List.getElem?_eq_some_iff.1 h).1
  rw [segCells_length] at hj
  have hi : j / 2 < l.length := by omega
  obtain ⟨h1, h2⟩ := segCells_get l (j / 2) l[j / 2] (List.getElem?_eq_getElem hi)
  refine ⟨j / 2, l[j / 2], List.getElem?_eq_getElem hi, ?_⟩
  rcases Nat.mod_two_eq_zero_or_one j with e | e
  · have : j = j / 2 * 2 := by omega
    rw [← this, h] at h1
    exact .inl ⟨this, Option.some.inj h1⟩
  · have : j = j / 2 * 2 + 1 := by omega
    rw [← this, h] at h2
    exact .inr ⟨this, Option.some.inj h2⟩
theorem Segs.slc {w : World} {v : Value} {l : List Seg} (h : Segs w v l) : Slc w 2 v l.length (segCells l) := by
  obtain ⟨a, c, rfl, h1, h2, h3⟩ := h
  refine ⟨a, c, rfl, h1, h2, segCells_length l, ?_⟩
  rcases h3 with rfl | ⟨b, o, rfl, hb, hc⟩
  · exact .inl rfl
  · refine .inr ⟨b, o, rfl, hb, fun j u hu => ?_⟩
    obtain ⟨i, s, hs, ⟨rfl, rfl⟩ | ⟨rfl, rfl⟩⟩ := segCells_at hu
    · exact (hc i s hs).1
    · exact (hc i s hs).2

theorem segJoin_ok (v : Value) (l : List Seg) (w : World) (hv : Segs w v l) (h : (sizeL l).2 = 0) :
    Calls Try.prog 17 #[v] w fun e w' => e = .returned (.tuple #[.string (mkS (expand l)), .int .i64 0]) ∧ Below w.heap.size w w' := by
  have := segJoin_any v l w hv
  rwa [joinL_eq h] at this
theorem segJoin_err (v : Value) (l : List Seg) (w : World) (hv : Segs w v l) (h : (sizeL l).2 ≠ 0) :
    Calls Try.prog 17 #[v] w fun e w' => e = .returned (.tuple #[.string ⟨#[]⟩, .int .i64 (sizeL l).2]) ∧ Below w.heap.size w w' := by
  have := segJoin_any v l w hv
  rwa [joinL_ne h] at this
theorem segJoin_some (v : Value) (l : List Seg) (w : World) (hv : Segs w v l) :
    Calls Try.prog 17 #[v] w fun e w' => (∃ s, e = .returned (.tuple #[.string s, .int .i64 (sizeL l).2])) ∧ Below w.heap.size w w' :=
  (segJoin_any v l w hv).mono fun e w' ⟨he, hb⟩ => ⟨⟨mkS (joinL l).1, by rw [he, joinL_err]⟩, hb⟩

set_option maxHeartbeats 2000000 in
theorem sparseConcatenation_any (u v : Value) (a b : List Seg) (w : World) (hu : Segs w u a) (hv : Segs w v b) (ha : a.length ≤ 1048576) (hb : b.length ≤ 1048576) (hd : ∀ s ∈ a ++ b, s.2.length ≤ reachBytes) :
    Calls Try.prog 4 #[u, v] w fun e w' => e = .returned (.bool true) ∧ Below w.heap.size w w' := by
  obtain ⟨i0, hi, hz0, hz1, hz2⟩ := info_parts Try.infoSeg
  have hz2' : i0.bytes = 24 := hz2
  have hw0 : Below w.heap.size w (w.alloc (.cells #[] 45)) := (Below.refl _ _).alloc (Nat.le_refl _) _
  have h0 : (w.alloc (.cells #[] 45)).ownsRow w.heap.size 45 2 (.slice (some ⟨w.heap.size, 0, none⟩) 0 0) 0 [] :=
    World.ownsRow_lit w #[] 0 (Nat.le_refl _) (by decide) rfl
  have hu0 := (hu.below hw0 (Nat.le_refl _)).slc
  have HU := Keep.mk hu
  have HV := Keep.mk hv
  clear hu hv
  go_enter Try.func4, Try.ntmps4
  go_wp2_with (first | (at_builtin; refine wpList_append_slc (o := ⟨some 16, _, _, _, _, _⟩) rfl _ _ 27 rfl w.heap.size 45 i0 (.agg #[.int .i64 0, .string ⟨#[]⟩]) 2 24 Try.underlying27 hi hz0 hz1 hz2' rfl (by decide) (.slice (some ⟨w.heap.size, 0, none⟩) 0 0) 0 [] rfl h0 u a.length (segCells a) rfl hu0 segCells_one (by unfold maxLen; omega) (by omega) (by simp) ?_; intro v1 w1 hown1 hg1 _; rw [Nat.zero_add, List.nil_append] at hown1; have hb1 := below_append hw0 (by simp) h0 (Nat.le_refl _) hg1; have hsl1 := (HV.out.below hb1 (Nat.le_refl _)).slc; have hl1 := hb1.size) | (at_builtin; refine wpList_append_slc (o := ⟨some 18, _, _, _, _, _⟩) rfl _ _ 27 rfl w.heap.size 45 i0 (.agg #[.int .i64 0, .string ⟨#[]⟩]) 2 24 Try.underlying27 hi hz0 hz1 hz2' rfl (by decide) v1 a.length (segCells a) rfl hown1 v b.length (segCells b) rfl hsl1 segCells_one (by unfold maxLen; omega) (by omega) hl1 ?_; intro v2 w2 hown2 hg2 _))
  have hb2 := below_append hb1 hl1 hown1 (Nat.le_refl _) hg2
  rw [← segCells_append] at hown2
  have hS2 := Segs.of_owns hown2
  have HD := Keep.mk hd
  have hU2 := HU.out.below hb2 (Nat.le_refl _)
  have hV2 := HV.out.below hb2 (Nat.le_refl _)
  have hB2 := Keep.mk hb2
  clear hown1 hown2 hg1 hg2 hb1 hb2 hsl1 hu0 h0 hw0 hl1 hi hz0 hz1 hz2 hz2' HU HV hd
  refine (great_any v2 (a ++ b) w2 hS2 HD.out).mono ?_
  rintro e w3 ⟨g, rfl, _, hb3⟩
  have hS3 := hS2.below hb3 (Nat.le_refl _)
  have hU3 := hU2.below hb3 (Nat.le_refl _)
  have hV3 := hV2.below hb3 (Nat.le_refl _)
  have hB3 := Keep.mk (held_on hb3 hB2.out)
  clear hS2 hU2 hV2 hB2 hb3 HD
  cases g with
  | true =>
    go_wp2_with fail
    refine (awake_any _).mono ?_
    rintro e w4 ⟨rfl, hb4⟩
    go_wp2
    go_ret
    exact ⟨rfl, held_on hb4 hB3.out⟩
  | false =>
    by_cases hab : (sizeL a).2 = 0 ∧ (sizeL b).2 = 0
    · obtain ⟨h1, h2⟩ := hab
      have hsum := sizeL_append_ok h1 h2
      have l1 := (sizeL_ok h1).2.2
      have l2 := (sizeL_ok h2).2.2
      have J1 := Keep.mk (fun wx hx => segJoin_ok u a wx hx h1)
      have J2 := Keep.mk (fun wx hx => segJoin_ok v b wx hx h2)
      have J3 : Keep (∀ wx, Segs wx v2 (a ++ b) → Calls Try.prog 17 #[v2] wx fun e w' => e = .returned (.tuple (if (expand a).length + (expand b).length ≤ 65536 then #[.string (mkS (expand a ++ expand b)), .int .i64 0] else #[.string ⟨#[]⟩, .int .i64 6])) ∧ Below wx.heap.size wx w') := ⟨fun wx hx => by
        by_cases hle : (expand a).length + (expand b).length ≤ 65536
        · rw [if_pos hle] at hsum ⊢
          have := segJoin_ok v2 (a ++ b) wx hx (by rw [hsum])
          rwa [expand_append] at this
        · rw [if_neg hle] at hsum ⊢
          have := segJoin_err v2 (a ++ b) wx hx (by rw [hsum]; decide)
          rwa [hsum] at this⟩
      have J4 := Keep.mk (fun wx hx => segSize_any v2 (a ++ b) wx hx)
      rw [hsum] at J4
      clear h1 h2 hsum
      obtain ⟨s, hs⟩ : ∃ s, s = mkS (expand a) := ⟨_, rfl⟩
      obtain ⟨t, ht⟩ : ∃ t, t = mkS (expand b) := ⟨_, rfl⟩
      have hsz : s.size = (expand a).length := by rw [hs, size_mkS]
      have htz : t.size = (expand b).length := by rw [ht, size_mkS]
      rw [← mkS_append, ← hs, ← ht, ← hsz, ← htz] at J3
      rw [← hsz, ← htz] at J4
      rw [← hs] at J1
      rw [← ht] at J2
      have b1 : s.size ≤ 65536 := by omega
      have b2 : t.size ≤ 65536 := by omega
      clear hs ht hsz htz l1 l2
      have hcat := fun (wx : World) => run_string_add_sum (P := Try.prog) wx s t (by omega)
      have hrz : (s ++ t).size = s.size + t.size := ByteArray.size_append
      generalize hr : s ++ t = r at *
      have HRZ := Keep.mk hrz
      clear hr hrz
      go_wp2_with fail
      refine (J1.out w3 hU3).mono ?_
      rintro e w4 ⟨rfl, hb4⟩
      have hS4 := hS3.below hb4 (Nat.le_refl _)
      have hV4 := hV3.below hb4 (Nat.le_refl _)
      have hB4 := Keep.mk (held_on hb4 hB3.out)
      clear hS3 hU3 hV3 hB3 hb4
      go_wp2_with fail
      refine (J2.out w4 hV4).mono ?_
      rintro e w5 ⟨rfl, hb5⟩
      have hS5 := hS4.below hb5 (Nat.le_refl _)
      have hB5 := Keep.mk (held_on hb5 hB4.out)
      clear hS4 hV4 hB4 hb5
      go_wp2_with fail
      refine (J3.out w5 hS5).mono ?_
      rintro e w6 ⟨rfl, hb6⟩
      have hS6 := hS5.below hb6 (Nat.le_refl _)
      have hB6 := Keep.mk (held_on hb6 hB5.out)
      clear hS5 hB5 hb6
      by_cases hle : s.size + t.size ≤ 65536
      · rw [if_pos hle] at J4 ⊢
        have hbig : ¬ (65536 : Int) < (s.size : Int) + (t.size : Int) := by omega
        dsimp only at J4
        rw [← HRZ.out] at J4
        have HLE := Keep.mk hle
        go_wp2_with fail
        refine (J4.out w6 hS6).mono ?_
        rintro e w7 ⟨rfl, hb7⟩
        have hB7 := Keep.mk (held_on hb7 hB6.out)
        clear hS6 hB6 hb7
        go_wp2_with fail
        refine (awake_any _).mono ?_
        rintro e w8 ⟨rfl, hb8⟩
        go_wp2
        go_ret
        exact ⟨rfl, held_on hb8 hB7.out⟩
      · rw [if_neg hle] at J4 ⊢
        have hbig : (65536 : Int) < (s.size : Int) + (t.size : Int) := by omega
        dsimp only at J4
        go_wp2_with fail
        refine (J4.out w6 hS6).mono ?_
        rintro e w7 ⟨rfl, hb7⟩
        have hB7 := Keep.mk (held_on hb7 hB6.out)
        clear hS6 hB6 hb7
        go_wp2_with fail
        refine (awake_any _).mono ?_
        rintro e w8 ⟨rfl, hb8⟩
        go_wp2
        go_ret
        exact ⟨rfl, held_on hb8 hB7.out⟩
    · have hne := sizeL_append_err (a := a) (b := b) (by
        by_cases h1 : (sizeL a).2 = 0
        · exact .inr (fun h2 => hab ⟨h1, h2⟩)
        · exact .inl h1)
      have J1 := Keep.mk (fun wx hx => segJoin_some u a wx hx)
      have J2 := Keep.mk (fun wx hx => segJoin_some v b wx hx)
      have J3 := Keep.mk (fun wx hx => segJoin_err v2 (a ++ b) wx hx hne)
      have J4 := Keep.mk (fun wx hx => segSize_any v2 (a ++ b) wx hx)
      have hk : ((sizeL (a ++ b)).2 != 0) = true := by simp [hne]
      have hor : ((sizeL a).2 != 0) = true ∨ ((sizeL a).2 != 0) = false ∧ ((sizeL b).2 != 0) = true := by
        by_cases h1 : (sizeL a).2 = 0
        · exact .inr ⟨by simp [h1], by simpa using fun h2 => hab ⟨h1, h2⟩⟩
        · exact .inl (by simp [h1])
      clear hab hne
      generalize (sizeL (a ++ b)).2 = k at *
      generalize (sizeL (a ++ b)).1 = n at *
      generalize (sizeL a).2 = ka at *
      generalize (sizeL b).2 = kb at *
      have HOR := Keep.mk hor
      clear hor
      go_wp2_with fail
      refine (J1.out w3 hU3).mono ?_
      rintro e w4 ⟨⟨s, rfl⟩, hb4⟩
      have hS4 := hS3.below hb4 (Nat.le_refl _)
      have hV4 := hV3.below hb4 (Nat.le_refl _)
      have hB4 := Keep.mk (held_on hb4 hB3.out)
      clear hS3 hU3 hV3 hB3 hb4
      go_wp2_with fail
      refine (J2.out w4 hV4).mono ?_
      rintro e w5 ⟨⟨t, rfl⟩, hb5⟩
      have hS5 := hS4.below hb5 (Nat.le_refl _)
      have hB5 := Keep.mk (held_on hb5 hB4.out)
      clear hS4 hV4 hB4 hb5
      go_wp2_with fail
      refine (J3.out w5 hS5).mono ?_
      rintro e w6 ⟨rfl, hb6⟩
      have hS6 := hS5.below hb6 (Nat.le_refl _)
      have hB6 := Keep.mk (held_on hb6 hB5.out)
      clear hS5 hB5 hb6
      go_wp2_with fail
      refine (J4.out w6 hS6).mono ?_
      rintro e w7 ⟨rfl, hb7⟩
      have hB7 := Keep.mk (held_on hb7 hB6.out)
      clear hS6 hB6 hb7
      rcases HOR.out with h1 | ⟨h1, h2⟩
      · go_wp2_with fail
        refine (awake_any _).mono ?_
        rintro e w8 ⟨rfl, hb8⟩
        go_wp2
        go_ret
        exact ⟨rfl, held_on hb8 hB7.out⟩
      · go_wp2_with fail
        refine (awake_any _).mono ?_
        rintro e w8 ⟨rfl, hb8⟩
        go_wp2
        go_ret
        exact ⟨rfl, held_on hb8 hB7.out⟩

theorem segs_bulk {H : Type} {d : DataW H} {l : List Seg} (h : (d = .nil ∧ l = []) ∨ ∃ sp, d = .slice (l.map fun s => .agg [.lit (.int .i64 s.1), .lit (.string s.2)]) sp) (hd : Rows.uptoBulk d ≤ 1048576) : l.length ≤ 1048576 := by
  rcases h with ⟨_, rfl⟩ | ⟨sp, rfl⟩
  · exact Nat.zero_le _
  · have := bulk_slice_length (H := H) (l.map fun s => .agg [.lit (.int .i64 s.1), .lit (.string s.2)]) sp
    simp only [List.length_map] at this
    omega
theorem SparseConcatenation_walk : LawWalkU 4 Try.f4 := by
  intro H enc W base args ds ps hval hA hsz hk _
  rw [Try.params4] at hA hval hsz
  obtain ⟨v0, vs0, d0, ds0, p0, q0, hargs, rfl, rfl, h0, r0⟩ := trodAll_cons hA
  obtain ⟨v1, vs1, d1, ds1, p1, q1, rfl, rfl, rfl, h1, r1⟩ := trodAll_cons r0
  obtain ⟨rfl, rfl, rfl⟩ := trodAll_nil r1
  obtain rfl : args = #[v0, v1] := by cases args; simp_all
  obtain ⟨a, ha, hb, ea⟩ := open_segs (hval 0 27 v0 rfl rfl) h0 (sized_each hsz (j := 0) rfl rfl)
  obtain ⟨b, ha', hb', eb⟩ := open_segs (hval 1 27 v1 rfl rfl) h1 (sized_each hsz (j := 1) rfl rfl)
  exact sparseConcatenation_any v0 v1 a b W ha ha' (segs_bulk ea (bulk_each hk (by simp))) (segs_bulk eb (bulk_each hk (by simp))) (fun s hs => (List.mem_append.1 hs).elim (hb s) (hb' s))
end Go.Proofs.Ytgoipkilpmjecaa
namespace Go.Proofs.Ytgoipkilpmjecaa
open Go.ChangeShapes Go.WideShapes Go.ChangeAt Go.RowKit
set_option maxRecDepth 100000 in
theorem SparseConcatenation_lifted (os : Os) (started : os.Started) (H : Type) (enc : TypeId × Value → H) (F : Stop.Interp) :
    ReturnsInHanded {} Try.checked os 4 .any ((Rows.OpenSpec.upto Rows.sparseConcatenationSpec).pre6 enc Try.prog Try.f4 Rows.sparseConcatenationUptoRow.domain false) (((Rows.OpenSpec.upto Rows.sparseConcatenationSpec).at F).post enc Try.prog Try.f4 false true false false) := by
  refine returns_upto (C := Try.checked) (s := Rows.OpenSpec.upto Rows.sparseConcatenationSpec) (k := Rows.uptoSmall) rfl own started (by kernel_rfl) Try.func4
    (OpenSpec.witness (enc := enc) (C := Try.checked) (s := Rows.OpenSpec.upto Rows.sparseConcatenationSpec) (k := Rows.uptoSmall) rfl false ⟨#[], #[.slice none 0 0, .slice none 0 0], []⟩ 8 (by kernel_rfl) (by kernel_rfl) (by kernel_rfl)
      (x := ([.nil, .nil], [], [])) (by kernel_rfl) rfl (by kernel_rfl)) ?_
  intro W base args ds gs before hval hW hk hsz hsh
  exact law_contract_upto (s := Rows.sparseConcatenationSpec) (by kernel_rfl) (by kernel_rfl) ⟨rfl, fun H ds h => by rw [Try.params4] at h; match ds, h with | [d0, d1], _ => rfl⟩ SparseConcatenation_walk W base args ds gs before hval hW hk hsz hsh
theorem SparseConcatenation_proved : Rows.SparseConcatenationUptoSaid :=
  OpenClaim.holds_of_cond 4 Try.f4 rfl rfl rfl rfl rfl rfl rfl ⟨rfl, rfl, rfl, rfl, rfl⟩ rfl rfl rfl rfl rfl (by kernel_rfl) Try.func4 (by kernel_rfl)
    (of_decide_eq_true (by kernel_rfl)) (by unfold Func.isWrapper; first | (rw [if_pos (by decide +kernel)]; kernel_rfl) | (rw [if_neg (by decide +kernel)]; exact ⟨rfl, rfl⟩))
    (fun os started H enc _ F => SparseConcatenation_lifted os started H enc F)
end Go.Proofs.Ytgoipkilpmjecaa
