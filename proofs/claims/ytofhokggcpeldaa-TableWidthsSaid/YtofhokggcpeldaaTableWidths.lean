/- The law TableWidths: the widths of two tables, one below the other. No condition. -/
import Derived.Test.YtofhokggcpeldaaTabMore
namespace Go.Proofs.Ytofhokggcpeldaa
open Go.RowKit Go.Shelf Go.Proofs.Ytofhokggcpeldaa.Table Go.ChangeShapes Go.WideShapes Go.ChangeAt

theorem len_small {rows : List Row} (h : ∀ r ∈ rows, Small r) : ∀ r ∈ rows, r.length ≤ 8796093022208 := fun r hr => by have := (h r hr).1; omega

set_option maxRecDepth 100000 in
set_option maxHeartbeats 4000000 in
theorem tableWidths_any (v z : Value) (a b : List Row) (w : World) (hv : RowsOk w v a) (hz : RowsOk w z b) :
    Calls Try.prog 9 #[v, z] w fun e w' => e = .returned (.bool true) ∧ Below w.heap.size w w' := by
  obtain ⟨hv, hr, hc, _⟩ := hv
  obtain ⟨hz, hr', hc', _⟩ := hz
  go_enter Try.func9, Try.ntmps9
  go_wp2_with fail
  refine (great51_any v a w hv hc).mono ?_
  rintro e w' ⟨⟨g, rfl, hg⟩, rfl⟩
  clear hc
  cases g with
  | true =>
    clear hg
    go_wp2_with fail
    refine (awake51_any _).mono ?_
    rintro e w2 ⟨rfl, hb2⟩
    go_wp2
    go_ret
    exact ⟨rfl, hb2⟩
  | false =>
  obtain ⟨hn, hs⟩ := hg rfl
  have HS := Keep.mk hs
  clear hg hs
  go_wp2_with fail
  refine (great51_any z b w hz hc').mono ?_
  rintro e w' ⟨⟨g, rfl, hg⟩, rfl⟩
  clear hc'
  cases g with
  | true =>
    clear hg
    go_wp2_with fail
    refine (awake51_any _).mono ?_
    rintro e w2 ⟨rfl, hb2⟩
    go_wp2
    go_ret
    exact ⟨rfl, hb2⟩
  | false =>
  obtain ⟨hn', hs'⟩ := hg rfl
  have HS' := Keep.mk hs'
  clear hg hs'
  go_wp2_with fail
  refine (widths_any v a w hv hr).mono ?_
  rintro e w1 ⟨x, rfl, hx, hb1⟩
  obtain ⟨ax, cx, rfl⟩ := ownsRow_slice hx
  have hX1 := Keep.mk (Nums.of_owns hx)
  have hv1 := hv.below hb1 (Nat.le_refl _)
  have hz1 := hz.below hb1 (Nat.le_refl _)
  clear hx
  go_wp2_with fail
  refine (widths_any z b w1 hz1 hr').mono ?_
  rintro e w2 ⟨y, rfl, hy, hb2⟩
  obtain ⟨ay, cy, rfl⟩ := ownsRow_slice hy
  have hY2 := Keep.mk (Nums.of_owns hy)
  have hX2 := Keep.mk (hX1.out.below hb2 (Nat.le_refl _))
  have hv2 := hv1.below hb2 (Nat.le_refl _)
  have hz2 := hz1.below hb2 (Nat.le_refl _)
  have hB2 := Keep.mk (held_on hb2 hb1)
  clear hy hX1 hv1 hz1 hb2 hv hz hr hr' hb1
  obtain ⟨us, hus, hvals⟩ := hv2.vals
  obtain ⟨us', hus', hvals'⟩ := hz2.vals
  obtain ⟨i0, hi0, hz0, hz1, hz2'⟩ := info_parts Try.infoRow
  have hw0 : Below w2.heap.size w2 (w2.alloc (.cells #[] 28)) := (Below.refl _ _).alloc (Nat.le_refl _) _
  have h0 : (w2.alloc (.cells #[] 28)).ownsRow w2.heap.size 28 1 (.slice (some ⟨w2.heap.size, 0, none⟩) 0 0) 0 [] :=
    World.ownsRow_lit w2 #[] 0 (Nat.le_refl _) (by decide) rfl
  have hus1 := hus.below hw0 (Nat.le_refl _)
  go_wp2_with (first | (at_builtin; refine wpList_append_slc (o := ⟨some 25, _, _, _, _, _⟩) rfl _ _ 22 rfl w2.heap.size 28 i0 (.slice none 0 0) 1 24 Try.underlying22 hi0 hz0 hz1 hz2' rfl (by decide) (.slice (some ⟨w2.heap.size, 0, none⟩) 0 0) 0 [] rfl h0 v a.length us rfl hus1 hvals.oneCell (by unfold maxLen; omega) (by omega) (by simp) ?_; intro v4 w4 hown4 hg4 _; rw [Nat.zero_add, List.nil_append] at hown4; have hb4 := below_append hw0 (by simp) h0 (Nat.le_refl _) hg4; have hl4 := hb4.size; have hus2 := hus'.below hb4 (Nat.le_refl _)) | (at_builtin; refine wpList_append_slc (o := ⟨some 27, _, _, _, _, _⟩) rfl _ _ 22 rfl w2.heap.size 28 i0 (.slice none 0 0) 1 24 Try.underlying22 hi0 hz0 hz1 hz2' rfl (by decide) v4 a.length us rfl hown4 z b.length us' rfl hus2 hvals'.oneCell (by unfold maxLen; omega) (by omega) hl4 ?_; intro v5 w5 hown5 hg5 _; have hb5 := below_append hb4 hl4 hown4 (Nat.le_refl _) hg5))
  have hT5 : TRows w5 v5 (a ++ b) := TRows.of_owns (by rw [List.length_append]; exact hown5) ((hvals.below hb5 (Nat.le_refl _)).append (hvals'.below hb5 (Nat.le_refl _)))
  have hv5 := Keep.mk (hv2.below hb5 (Nat.le_refl _))
  have hX5 := Keep.mk (hX2.out.below hb5 (Nat.le_refl _))
  have hY5 := Keep.mk (hY2.out.below hb5 (Nat.le_refl _))
  have hB5 := Keep.mk (held_on hb5 hB2.out)
  clear hown5 hg5 hown4 hg4 hb4 hl4 hus2 hus1 h0 hw0 hus hus' hvals hvals' hb5 hv2 hz2 hX2 hY2 hB2
  refine (widths_any v5 (a ++ b) w5 hT5 (fun r hr => by rcases List.mem_append.1 hr with h | h; exact len_small HS.out r h; exact len_small HS'.out r h)).mono ?_
  rintro e w6 ⟨zz, rfl, hzz, hb6⟩
  obtain ⟨az, cz, rfl⟩ := ownsRow_slice hzz
  have hZ6 := Keep.mk (Nums.of_owns hzz)
  have hX6 := Keep.mk (hX5.out.below hb6 (Nat.le_refl _))
  have hY6 := Keep.mk (hY5.out.below hb6 (Nat.le_refl _))
  have hv6 := hv5.out.below hb6 (Nat.le_refl _)
  have hB6 := Keep.mk (held_on hb6 hB5.out)
  clear hzz hX5 hY5 hv5 hb6 hB5 hT5
  have hlenz := (widths_both a b).1
  have hgetz := Keep.mk (widths_both a b).2
  have hmax : ((if (widths a).length < (widths b).length then (widths b).length else (widths a).length : Nat) : Int) = max (widths a).length (widths b).length := by
    split <;> omega
  obtain ⟨us, hus, hvals⟩ := hv6.vals
  have hw0 : Below w6.heap.size w6 (w6.alloc (.cells #[] 28)) := (Below.refl _ _).alloc (Nat.le_refl _) _
  have h0 : (w6.alloc (.cells #[] 28)).ownsRow w6.heap.size 28 1 (.slice (some ⟨w6.heap.size, 0, none⟩) 0 0) 0 [] :=
    World.ownsRow_lit w6 #[] 0 (Nat.le_refl _) (by decide) rfl
  have hus1 := hus.below hw0 (Nat.le_refl _)
  go_wp2_with (first | (at_builtin; refine wpList_append_slcg (o := ⟨some 40, _, _, _, _, _⟩) rfl _ _ 22 rfl w6.heap.size 28 i0 (.slice none 0 0) 1 24 Try.underlying22 hi0 hz0 hz1 hz2' rfl (by decide) (.slice (some ⟨w6.heap.size, 0, none⟩) 0 0) 0 [] rfl h0 v a.length us rfl hus1 hvals.oneCell (by unfold maxLen; omega) (by omega) (by simp) ?_; intro v7 w7 hown7 hg7 _; rw [Nat.zero_add, List.nil_append] at hown7; have hb7 := below_append hw0 (by simp) h0 (Nat.le_refl _) hg7; have hl7 := hb7.size; have hus2 := hus.below hb7 (Nat.le_refl _)) | (at_builtin; refine wpList_append_slcg (o := ⟨some 42, _, _, _, _, _⟩) rfl _ _ 22 rfl w6.heap.size 28 i0 (.slice none 0 0) 1 24 Try.underlying22 hi0 hz0 hz1 hz2' rfl (by decide) v7 a.length us rfl hown7 v a.length us rfl hus2 hvals.oneCell (by unfold maxLen; omega) (by omega) hl7 ?_; intro v8 w8 hown8 hg8 _; have hb8 := below_append hb7 hl7 hown7 (Nat.le_refl _) hg8))
  have hT8 : TRows w8 v8 (a ++ a) := TRows.of_owns (by rw [List.length_append]; exact hown8) ((hvals.below hb8 (Nat.le_refl _)).append (hvals.below hb8 (Nat.le_refl _)))
  have hX8 := Keep.mk (hX6.out.below hb8 (Nat.le_refl _))
  have hY8 := Keep.mk (hY6.out.below hb8 (Nat.le_refl _))
  have hZ8 := Keep.mk (hZ6.out.below hb8 (Nat.le_refl _))
  have hB8 := Keep.mk (held_on hb8 hB6.out)
  clear hown8 hg8 hown7 hg7 hb7 hl7 hus2 hus1 h0 hw0 hus hvals hb8 hv6 hX6 hY6 hZ6 hB6
  refine (widths_any v8 (a ++ a) w8 hT8 (fun r hr => by rcases List.mem_append.1 hr with h | h <;> exact len_small HS.out r h)).mono ?_
  rintro e w9 ⟨yy, rfl, hyy, hb9⟩
  obtain ⟨aa, ca, rfl⟩ := ownsRow_slice hyy
  have hX9 := hX8.out.below hb9 (Nat.le_refl _)
  have hY9 := hY8.out.below hb9 (Nat.le_refl _)
  have hZ9 := hZ8.out.below hb9 (Nat.le_refl _)
  have hB9 := Keep.mk (held_on hb9 hB8.out)
  have hlenaa : (widths (a ++ a)).length = (widths a).length := by rw [(widths_both a a).1, Nat.max_self]
  have hgZ := hgetz.out
  clear hyy hX8 hY8 hZ8 hb9 hB8 hT8 hgetz
  rw [hlenz] at hZ9
  obtain ⟨_, _, e1, k1, k2, k3⟩ := hX9
  obtain ⟨_, _, e2, l1, l2, l3⟩ := hY9
  obtain ⟨_, _, e3, m1, m2, m3⟩ := hZ9
  simp only [Value.slice.injEq, true_and] at e1 e2 e3
  obtain ⟨rfl, rfl⟩ := e1
  obtain ⟨rfl, rfl⟩ := e2
  obtain ⟨rfl, -, rfl⟩ := e3
  have K3 := Keep.mk k3
  have L3 := Keep.mk l3
  have M3 := Keep.mk m3
  have HG := Keep.mk hgZ
  have hx8 := (small_widths HS.out).1
  have hy8 := (small_widths HS'.out).1
  unfold maxLen at k2 l2 m2
  rw [hlenaa]
  clear k3 l3 m3 hgZ
  generalize widths a = X at *
  generalize widths b = Y at *
  generalize widths (a ++ b) = Z at *
  have hlenz' : ((max X.length Y.length : Nat) : Int) = max (X.length : Int) (Y.length : Int) := by omega
  go_wp2_with fail
  clear hlenz' hmax
  obtain ⟨N, hN⟩ : ∃ N, N = max X.length Y.length := ⟨_, rfl⟩
  rw [← hN] at hlenz ⊢
  have hN1 : X.length ≤ N := by omega
  have hN2 : Y.length ≤ N := by omega
  have hN3 : N ≤ 8 := by omega
  go_loop [51] (fun i => ∃ k : Nat, k ≤ N ∧ i = .int .i64 k) (fun i => N - (intOf i).toNat)
  case atStart => exact ⟨0, Nat.zero_le _, rfl⟩
  case round =>
    obtain ⟨k, hk, rfl⟩ := hrel
    by_cases hlt : k < N
    · obtain ⟨bz, oz, rfl, hbz, hcz⟩ := M3.out k (Z.getD k 0) (by rw [List.getD_eq_getElem?_getD, List.getElem?_eq_getElem (by omega)]; rfl)
      have hz := HG.out k
      by_cases hX : k < X.length
      · obtain ⟨bx, ox, rfl, hbx, hcx⟩ := K3.out k (X.getD k 0) (by rw [List.getD_eq_getElem?_getD, List.getElem?_eq_getElem (by omega)]; rfl)
        by_cases hY : k < Y.length
        · obtain ⟨b_y, oy, rfl, hby, hcy⟩ := L3.out k (Y.getD k 0) (by rw [List.getD_eq_getElem?_getD, List.getElem?_eq_getElem (by omega)]; rfl)
          generalize X.getD k 0 = p at *
          generalize Y.getD k 0 = q at *
          generalize Z.getD k 0 = r at *
          have hr : (r : Int) = ((if p < q then q else p : Nat) : Int) := by split <;> omega
          go_wp2
          go_round
          case rel => exact ⟨k + 1, by omega, by go_num⟩
          case measure => simp [intOf]; omega
        · have hy0 : Y.getD k 0 = 0 := by rw [List.getD_eq_getElem?_getD, List.getElem?_eq_none (by omega)]; rfl
          rw [hy0, Nat.max_zero] at hz
          rw [hz] at hcz
          generalize X.getD k 0 = p at *
          go_wp2
          go_round
          case rel => exact ⟨k + 1, by omega, by go_num⟩
          case measure => simp [intOf]; omega
      · have hx0 : X.getD k 0 = 0 := by rw [List.getD_eq_getElem?_getD, List.getElem?_eq_none (by omega)]; rfl
        have hY : k < Y.length := by omega
        obtain ⟨b_y, oy, rfl, hby, hcy⟩ := L3.out k (Y.getD k 0) (by rw [List.getD_eq_getElem?_getD, List.getElem?_eq_getElem (by omega)]; rfl)
        rw [hx0, Nat.zero_max] at hz
        rw [hz] at hcz
        generalize Y.getD k 0 = q at *
        go_wp2
        go_round
        case rel => exact ⟨k + 1, by omega, by go_num⟩
        case measure => simp [intOf]; omega
    · obtain rfl : k = N := by omega
      go_wp2_with fail
      refine (awake51_any _).mono ?_
      rintro e w10 ⟨rfl, hb10⟩
      go_wp2
      go_ret
      exact ⟨rfl, held_on hb10 hB9.out⟩
theorem TableWidths_walk : LawWalk 9 Try.f9 := by
  intro H enc W base args ds ps hval hA hsz
  rw [Try.params9] at hA hval hsz
  obtain ⟨v0, vs0, d0, ds0, p0, q0, hargs, rfl, rfl, h0, r0⟩ := trodAll_cons hA
  obtain ⟨v1, vs1, d1, ds1, p1, q1, rfl, rfl, rfl, h1, r1⟩ := trodAll_cons r0
  obtain ⟨rfl, rfl, rfl⟩ := trodAll_nil r1
  obtain rfl : args = #[v0, v1] := by cases args; simp_all
  obtain ⟨rows, g1, g2, g3, g4⟩ := open_rows (hval 0 22 v0 rfl rfl) h0 (sized_each hsz (j := 0) rfl rfl)
  obtain ⟨rows', k1, k2, k3, k4⟩ := open_rows (hval 1 22 v1 rfl rfl) h1 (sized_each hsz (j := 1) rfl rfl)
  exact tableWidths_any v0 v1 rows rows' W ⟨g1, g2, g3, g4⟩ ⟨k1, k2, k3, k4⟩
end Go.Proofs.Ytofhokggcpeldaa
namespace Go.Proofs.Ytofhokggcpeldaa
open Go.ChangeShapes Go.WideShapes Go.ChangeAt Go.RowKit
set_option maxRecDepth 100000 in
theorem TableWidths_lifted (os : Os) (started : os.Started) (H : Type) (enc : TypeId × Value → H) :
    ReturnsInHanded {} Try.checked os 9 .any (Rows.tableWidthsSpec.pre6 enc Try.prog Try.f9 Rows.tableWidthsRow.domain false) (Rows.tableWidthsSpec.post enc Try.prog Try.f9 false true false false) := by
  refine returnsInHanded_of_change_sized (C := Try.checked) own started (by kernel_rfl) Try.func9
    (ChangeSpec.witness6 (enc := enc) (C := Try.checked) false ⟨#[], #[.slice none 0 0, .slice none 0 0], []⟩ 8 (by kernel_rfl) (by kernel_rfl) (by kernel_rfl) (by kernel_rfl)) ?_
  exact law_contract (by kernel_rfl) (by kernel_rfl) ⟨rfl, fun H ds h => by rw [Try.params9] at h; match ds, h with | [d0, d1], _ => rfl⟩ TableWidths_walk
theorem TableWidths_over : Rows.tableWidthsRow.holds Try.pinned (OpenSpec.ofChange Rows.tableWidthsSpec) :=
  OpenClaim.holds_of_wide 9 Try.f9 rfl rfl rfl rfl rfl rfl rfl ⟨rfl, rfl, rfl, rfl, rfl⟩ rfl rfl rfl rfl rfl (by kernel_rfl) Try.func9 (by kernel_rfl)
    (of_decide_eq_true (by kernel_rfl)) (by unfold Func.isWrapper; first | (rw [if_pos (by decide +kernel)]; kernel_rfl) | (rw [if_neg (by decide +kernel)]; exact ⟨rfl, rfl⟩))
    (fun os started H enc _ => TableWidths_lifted os started H enc)
theorem TableWidths_proved : Rows.TableWidthsSaid := TableWidths_over
end Go.Proofs.Ytofhokggcpeldaa
