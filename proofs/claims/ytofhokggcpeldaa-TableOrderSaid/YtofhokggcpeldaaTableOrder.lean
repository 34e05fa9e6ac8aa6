/- The law TableOrder: exchanging two rows exchanges their lines. No condition. -/
import Derived.Test.YtofhokggcpeldaaTabSwap
import Derived.BigRegion
namespace Go.Proofs.Ytofhokggcpeldaa
open Go.RowKit Go.Shelf Go.Proofs.Ytofhokggcpeldaa.Table Go.ChangeShapes Go.WideShapes Go.ChangeAt

theorem wrap_nat {n : Nat} (h : n ≤ 1000) : IntKind.i64.wrap (n : Int) = n := IntWalk.i64_in _ (by omega)

set_option maxRecDepth 100000 in
set_option maxHeartbeats 4000000 in
theorem tableOrder_any (v : Value) (i k : Nat) (rows : List Row) (w : World) (hv : RowsOk w v rows) (hi : i ≤ 255) (hk : k ≤ 255) :
    Calls Try.prog 8 #[v, .int .u8 i, .int .u8 k] w fun e w' => e = .returned (.bool true) ∧ Below w.heap.size w w' := by
  obtain ⟨hv, hr, hc, _⟩ := hv
  go_enter Try.func8, Try.ntmps8
  go_wp2_with fail
  refine (great51_any v rows w hv hc).mono ?_
  rintro e w' ⟨⟨g, rfl, hg⟩, rfl⟩
  clear hc
  cases g with
  | true =>
    clear hg
    go_wp2_with fail
    refine (awake51_any _).mono ?_
    rintro e w2 ⟨rfl, hb2⟩
    go_wp2
    go_ret
    exact ⟨rfl, hb2⟩
  | false =>
  obtain ⟨hn, hs⟩ := hg rfl
  have HS := Keep.mk hs
  have HV := Keep.mk hv
  clear hg hs hr
  obtain ⟨a0, c0, rfl, h1, h2, _⟩ := hv
  unfold maxLen at h2
  by_cases hz : rows.length = 0
  · have hz' : ((rows.length : Int) == 0) = true := by simp [hz]
    go_wp2_with fail
    refine (awake51_any _).mono ?_
    rintro e w2 ⟨rfl, hb2⟩
    go_wp2
    go_ret
    exact ⟨rfl, hb2⟩
  · have hz' : ((rows.length : Int) == 0) = false := by rw [beq_eq_false_iff_ne]; omega
    have hz2 : (rows.length : Int) ≠ 0 := by omega
    have hpos : 0 < rows.length := by omega
    have hA : (i : Int).tmod (rows.length : Int) = ((i % rows.length : Nat) : Int) := rfl
    have hB : (k : Int).tmod (rows.length : Int) = ((k % rows.length : Nat) : Int) := rfl
    have hAl : i % rows.length < rows.length := Nat.mod_lt _ hpos
    have hBl : k % rows.length < rows.length := Nat.mod_lt _ hpos
    have hA1 : i % rows.length ≤ 1000 := Nat.le_trans (Nat.mod_le _ _) (by omega)
    have hB1 : k % rows.length ≤ 1000 := Nat.le_trans (Nat.mod_le _ _) (by omega)
    have hiw := wrap_nat (n := i) (by omega)
    have hkw := wrap_nat (n := k) (Nat.le_trans hk (by decide))
    generalize i % rows.length = A at *
    generalize k % rows.length = B at *
    have hAw := wrap_nat hA1
    have hBw := wrap_nat hB1
    go_wp2_with fail
    go_quiet (fail)
    have hv1 := HV.out.below (below_drewN (Below.refl w.heap.size w) nq) (Nat.le_refl _)
    have hB1' := Keep.mk (below_drewN (Below.refl w.heap.size w) nq)
    have hAi : (A : Int) < (rows.length : Int) := by exact_mod_cast hAl
    have hBi : (B : Int) < (rows.length : Int) := by exact_mod_cast hBl
    have hA0 : (0 : Int) ≤ (A : Int) := Int.natCast_nonneg _
    have hB0 : (0 : Int) ≤ (B : Int) := Int.natCast_nonneg _
    clear hiw hkw hAw hBw hA hB HV hz' hz2 hz hA1 hB1
    generalize w.drewN nq = w1 at *
    obtain ⟨us, hus, hvals⟩ := hv1.vals
    obtain ⟨i0, hi0, hz0, hz1, hz2'⟩ := info_parts Try.infoRow
    have hw0 : Below w1.heap.size w1 (w1.alloc (.cells #[] 28)) := (Below.refl _ _).alloc (Nat.le_refl _) _
    have h0 : (w1.alloc (.cells #[] 28)).ownsRow w1.heap.size 28 1 (.slice (some ⟨w1.heap.size, 0, none⟩) 0 0) 0 [] :=
      World.ownsRow_lit w1 #[] 0 (Nat.le_refl _) (by decide) rfl
    have hus1 := hus.below hw0 (Nat.le_refl _)
    go_wp2_with (first | (at_builtin; refine wpList_append_slc (o := ⟨some 33, _, _, _, _, _⟩) rfl _ _ 22 rfl w1.heap.size 28 i0 (.slice none 0 0) 1 24 Try.underlying22 hi0 hz0 hz1 hz2' rfl (by decide) (.slice (some ⟨w1.heap.size, 0, none⟩) 0 0) 0 [] rfl h0 (.slice a0 rows.length c0) rows.length us rfl hus1 hvals.oneCell (by unfold maxLen; omega) (by omega) (by simp) ?_; intro v4 w4 hown4 hg4 _; rw [Nat.zero_add, List.nil_append] at hown4; have hb4 := below_append hw0 (by simp) h0 (Nat.le_refl _) hg4; have hl4 := hb4.size))
    obtain ⟨g4, c4, rfl, hc4, hm4⟩ := ownsRow_lead hown4 hpos
    have hul := hvals.1
    have cA : w4.cell? ⟨g4, A, none⟩ = some us[A] := by rw [hown4.cellAt A (by omega)]; exact List.getElem?_eq_getElem _
    have cB : w4.cell? ⟨g4, B, none⟩ = some us[B] := by rw [hown4.cellAt B (by omega)]; exact List.getElem?_eq_getElem _
    have fz : ∀ j, w4.frozen? ⟨g4, j, none⟩ = false := hown4.frozenAt
    have hfA := fz A
    have hfB := fz B
    have HO4 := Keep.mk hown4
    have HV4 := Keep.mk hvals
    have HV := Keep.mk hv1
    have HB4 := Keep.mk hb4
    have hAc : (A : Int) < (c4 : Int) := by omega
    have hBc : (B : Int) < (c4 : Int) := by omega
    unfold maxLen at hm4
    clear hown4 hg4 hb4 hl4 hus1 h0 hw0 hus hv1 fz hi0 hz0 hz1 hz2'
    have HUA : Keep (us[A]? = some us[A]) := ⟨List.getElem?_eq_getElem _⟩
    have HUB : Keep (us[B]? = some us[B]) := ⟨List.getElem?_eq_getElem _⟩
    obtain ⟨uA, eA, sA⟩ := hvals.2 A rows[A] (List.getElem?_eq_getElem hAl)
    obtain ⟨uB, eB, sB⟩ := hvals.2 B rows[B] (List.getElem?_eq_getElem hBl)
    obtain ⟨aA, kA, rfl, _⟩ := sA
    obtain ⟨aB, kB, rfl, _⟩ := sB
    rw [List.getElem?_eq_getElem (by omega)] at eA eB
    simp only [Option.some.injEq] at eA eB
    rw [eA] at HUA cA
    rw [eB] at HUB cB
    generalize rows[A].length = nA at *
    generalize rows[B].length = nB at *
    clear eA eB hvals
    go_upto_region 5 with (fail)
    go_cut [34] from 34 to 47 (fun _ wx => wx.ownsRow w1.heap.size 28 1 (.slice (some ⟨g4, 0, none⟩) rows.length c4) rows.length (swp undef us A B) ∧ Below w1.heap.size w4 wx)
    case first =>
      by_cases hAB : A = B
      · subst hAB
        go_region
        go_wp2
        go_meet
        exact ⟨(ownsRow_swp HO4.out HUA.out HUA.out).1.drew, (ownsRow_swp HO4.out HUA.out HUA.out).2.drew⟩
      · go_region
        go_wp2
        go_meet
        exact ⟨(ownsRow_swp HO4.out HUB.out HUA.out).1.drew, (ownsRow_swp HO4.out HUB.out HUA.out).2.drew⟩
    case rest =>
      obtain ⟨hown5, hb5⟩ := hcut
      have hb15 := HB4.out.trans hb5
      have hT5 := TRows.of_owns (rows := swp [] rows A B) (by rw [swp_length]; exact hown5) ((HV4.out.below hb15 (Nat.le_refl _)).swp hAl hBl)
      have hv5 := HV.out.below hb15 (Nat.le_refl _)
      have hB5 := Keep.mk (held_on hb15 hB1'.out)
      have HT5 := Keep.mk hT5
      clear hown5 hb5 hb15 HV HV4 HB4 HO4 HUA HUB hB1' cA cB hfA hfB hT5
      go_wp2_with fail
      refine (lines_any _ rows wc hv5 HS.out (by omega)).mono ?_
      rintro e w6 ⟨l, rfl, hl, hb6⟩
      obtain ⟨al, cl, rfl⟩ := ownsRow_slice hl
      have hL6 := Keep.mk (Strs.of_owns hl)
      have hT6 := HT5.out.below hb6 (Nat.le_refl _)
      have hB6 := Keep.mk (held_on hb6 hB5.out)
      clear hl hb6 hv5 HT5 hB5
      go_wp2_with fail
      refine (lines_any _ (swp [] rows A B) w6 hT6 (small_swp hAl hBl HS.out) (by rw [swp_length]; omega)).mono ?_
      rintro e w7 ⟨m, rfl, hm, hb7⟩
      rw [swp_length, linesS_swp hAl hBl, strCells_swp (by rw [linesS_length]; exact hAl) (by rw [linesS_length]; exact hBl)] at hm
      obtain ⟨g7, c7, rfl, hc7, hm7⟩ := ownsRow_lead hm hpos
      have hL7 := Keep.mk (hL6.out.below hb7 (Nat.le_refl _))
      have hB7 := Keep.mk (held_on hb7 hB6.out)
      have hls := linesS_length rows
      have HM := Keep.mk hm
      have hlA : A < (linesS rows).length := by rw [hls]; exact hAl
      have hlB : B < (linesS rows).length := by rw [hls]; exact hBl
      have hxl : (strCells (linesS rows)).length = rows.length := by rw [strCells_length, hls]
      obtain ⟨sA, hsA⟩ : ∃ s, (linesS rows)[A]? = some s := ⟨_, List.getElem?_eq_getElem hlA⟩
      obtain ⟨sB, hsB⟩ : ∃ s, (linesS rows)[B]? = some s := ⟨_, List.getElem?_eq_getElem hlB⟩
      have gA : (strCells (linesS rows))[A]? = some (.string sA) := by simp [strCells, hsA]
      have gB : (strCells (linesS rows))[B]? = some (.string sB) := by simp [strCells, hsB]
      have XA : Keep ((swp undef (strCells (linesS rows)) A B)[A]? = some (.string sB)) := ⟨by
        rw [swp_get (by omega) (by omega)]
        split
        · rename_i e; rw [e]; exact gB
        · rw [if_pos rfl]; exact gB⟩
      have XB : Keep ((swp undef (strCells (linesS rows)) A B)[B]? = some (.string sA)) := ⟨by
        rw [swp_get (by omega) (by omega), if_pos rfl]; exact gA⟩
      have cA : w7.cell? ⟨g7, A, none⟩ = some (.string sB) := (hm.cellAt A (by omega)).trans XA.out
      have cB : w7.cell? ⟨g7, B, none⟩ = some (.string sA) := (hm.cellAt B (by omega)).trans XB.out
      have hfA := hm.frozenAt A
      have hfB := hm.frozenAt B
      have HBACK : Keep (swp undef (swp undef (strCells (linesS rows)) A B) A B = strCells (linesS rows)) := ⟨swp_swp (by omega) (by omega)⟩
      have hL8 := Keep.mk (fun (wx : World) (h : Below w6.heap.size w6 wx) => hL6.out.below h (Nat.le_refl _))
      have HB7 := Keep.mk hb7
      have hAc : (A : Int) < (c7 : Int) := by omega
      have hBc : (B : Int) < (c7 : Int) := by omega
      have hne : ((rows.length : Int) != (rows.length : Int)) = false := by simp
      unfold maxLen at hm7
      clear hT6 hL7 gA gB hlA hlB hxl hm hb7 hls hsA hsB
      go_upto_region 9 with (fail)
      go_cut [64] from 64 to 77 (fun _ wx => wx.ownsRow w6.heap.size 9 1 (.slice (some ⟨g7, 0, none⟩) rows.length c7) rows.length (strCells (linesS rows)) ∧ Below w6.heap.size w7 wx)
      case first =>
        by_cases hAB : A = B
        · subst hAB
          go_region
          go_wp2
          go_meet
          exact ⟨HBACK.out ▸ (ownsRow_swp HM.out XA.out XA.out).1.drew, (ownsRow_swp HM.out XA.out XA.out).2.drew⟩
        · go_region
          go_wp2
          go_meet
          exact ⟨HBACK.out ▸ (ownsRow_swp HM.out XB.out XA.out).1.drew, (ownsRow_swp HM.out XB.out XA.out).2.drew⟩
      case rest =>
        obtain ⟨hown8, hb8⟩ := hcut
        have hM8 := Strs.of_owns hown8
        have hL8' := hL8.out _ (HB7.out.trans hb8)
        have hB8 := Keep.mk (held_on (HB7.out.trans hb8) hB6.out)
        clear hown8 hb8 HB7 HM HBACK XA XB cA cB hfA hfB hL8 hL6 hB6 hB7
        go_wp2_with fail
        refine (same51_any _ _ (linesS rows) (linesS rows) _ hL8' hM8).mono ?_
        rw [decide_eq_true rfl]
        rintro e w9 ⟨rfl, hb9⟩
        have hB9 := Keep.mk (held_on hb9 hB8.out)
        clear hL8' hM8 hb9 hB8
        go_wp2_with fail
        refine (awake51_any _).mono ?_
        rintro e w10 ⟨rfl, hb10⟩
        go_wp2
        go_ret
        exact ⟨rfl, held_on hb10 hB9.out⟩
theorem TableOrder_walk : LawWalk 8 Try.f8 := by
  intro H enc W base args ds ps hval hA hsz
  rw [Try.params8] at hA hval hsz
  obtain ⟨v0, vs0, d0, ds0, p0, q0, hargs, rfl, rfl, h0, r0⟩ := trodAll_cons hA
  obtain ⟨v1, vs1, d1, ds1, p1, q1, rfl, rfl, rfl, h1, r1⟩ := trodAll_cons r0
  obtain ⟨v2, vs2, d2, ds2, p2, q2, rfl, rfl, rfl, h2, r2⟩ := trodAll_cons r1
  obtain ⟨rfl, rfl, rfl⟩ := trodAll_nil r2
  obtain rfl : args = #[v0, v1, v2] := by cases args; simp_all
  obtain ⟨rows, g1, g2, g3, g4⟩ := open_rows (hval 0 22 v0 rfl rfl) h0 (sized_each hsz (j := 0) rfl rfl)
  obtain ⟨n, rfl, rfl, rfl, wn⟩ := open_int Try.underlying5 (hval 1 5 v1 rfl rfl) h1
  obtain ⟨m, rfl, rfl, rfl, wm⟩ := open_int Try.underlying5 (hval 2 5 v2 rfl rfl) h2
  have hn : 0 ≤ n ∧ n ≤ 255 := by simpa [Lit.wf, IntKind.min, IntKind.max, IntKind.signed, IntKind.bits] using wn
  have hm : 0 ≤ m ∧ m ≤ 255 := by simpa [Lit.wf, IntKind.min, IntKind.max, IntKind.signed, IntKind.bits] using wm
  obtain ⟨n, rfl⟩ := Int.eq_ofNat_of_zero_le hn.1
  obtain ⟨m, rfl⟩ := Int.eq_ofNat_of_zero_le hm.1
  exact tableOrder_any v0 n m rows W ⟨g1, g2, g3, g4⟩ (by omega) (by omega)
end Go.Proofs.Ytofhokggcpeldaa
namespace Go.Proofs.Ytofhokggcpeldaa
open Go.ChangeShapes Go.WideShapes Go.ChangeAt Go.RowKit
set_option maxRecDepth 100000 in
theorem TableOrder_lifted (os : Os) (started : os.Started) (H : Type) (enc : TypeId × Value → H) :
    ReturnsInHanded {} Try.checked os 8 .any (Rows.tableOrderSpec.pre6 enc Try.prog Try.f8 Rows.tableOrderRow.domain false) (Rows.tableOrderSpec.post enc Try.prog Try.f8 false true false false) := by
  refine returnsInHanded_of_change_sized (C := Try.checked) own started (by kernel_rfl) Try.func8
    (ChangeSpec.witness6 (enc := enc) (C := Try.checked) false ⟨#[], #[.slice none 0 0, .int .u8 0, .int .u8 0], []⟩ 8 (by kernel_rfl) (by kernel_rfl) (by kernel_rfl) (by kernel_rfl)) ?_
  exact law_contract (by kernel_rfl) (by kernel_rfl) ⟨rfl, fun H ds h => by rw [Try.params8] at h; match ds, h with | [d0, d1, d2], _ => rfl⟩ TableOrder_walk
theorem TableOrder_over : Rows.tableOrderRow.holds Try.pinned (OpenSpec.ofChange Rows.tableOrderSpec) :=
  OpenClaim.holds_of_wide 8 Try.f8 rfl rfl rfl rfl rfl rfl rfl ⟨rfl, rfl, rfl, rfl, rfl⟩ rfl rfl rfl rfl rfl (by kernel_rfl) Try.func8 (by kernel_rfl)
    (of_decide_eq_true (by kernel_rfl)) (by unfold Func.isWrapper; first | (rw [if_pos (by decide +kernel)]; kernel_rfl) | (rw [if_neg (by decide +kernel)]; exact ⟨rfl, rfl⟩))
    (fun os started H enc _ => TableOrder_lifted os started H enc)
theorem TableOrder_proved : Rows.TableOrderSaid := TableOrder_over
end Go.Proofs.Ytofhokggcpeldaa
