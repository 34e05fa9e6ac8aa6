/- The law TableAlignment: all lines have the length that the widths determine, with vertical bars at the column boundaries. No condition. -/
import Derived.Test.YtofhokggcpeldaaTabLaw
namespace Go.Proofs.Ytofhokggcpeldaa
open Go.RowKit Go.Shelf Go.Proofs.Ytofhokggcpeldaa.Table Go.ChangeShapes Go.WideShapes Go.ChangeAt

set_option maxRecDepth 100000 in
set_option maxHeartbeats 2000000 in
theorem tableAlignment_any (v : Value) (rows : List Row) (w : World) (hv : RowsOk w v rows) :
    Calls Try.prog 4 #[v] w fun e w' => e = .returned (.bool true) ∧ Below w.heap.size w w' := by
  obtain ⟨hv, hr, hc, _⟩ := hv
  go_enter Try.func4, Try.ntmps4
  go_wp2_with fail
  refine (great51_any v rows w hv hc).mono ?_
  rintro e w' ⟨⟨g, rfl, hg⟩, rfl⟩
  clear hc
  cases g with
  | true =>
    clear hg
    go_wp2_with fail
    refine (awake51_any _).mono ?_
    rintro e w2 ⟨rfl, hb2⟩
    go_wp2
    go_ret
    exact ⟨rfl, hb2⟩
  | false =>
    obtain ⟨hn, hs⟩ := hg rfl
    have HS := Keep.mk hs
    have hslim := small_widths hs
    have HSL : Keep (Slim (widths rows)) := ⟨hslim⟩
    have hw8 := hslim.1
    clear hg hs hslim
    go_wp2_with fail
    refine (widths_any v rows w hv hr).mono ?_
    rintro e w1 ⟨x, rfl, hx, hb1⟩
    have hv1 := hv.below hb1 (Nat.le_refl _)
    have hX := Nums.of_owns hx
    obtain ⟨ax, cx, rfl⟩ := ownsRow_slice hx
    have HB1 := Keep.mk hb1
    clear hx hr
    go_wp2_with fail
    refine (lines_any v rows w1 hv1 HS.out (by omega)).mono ?_
    rintro e w2 ⟨y, rfl, hy, hb2⟩
    obtain ⟨ay, cy, rfl⟩ := ownsRow_slice hy
    have hX2 := Keep.mk (hX.below hb2 (Nat.le_refl _))
    obtain ⟨a2, c2, e2, l1, l2, l3⟩ := (Strs.of_owns hy).parts
    rw [linesS_length] at e2 l1
    simp only [Value.slice.injEq, true_and] at e2
    obtain ⟨rfl, rfl⟩ := e2
    obtain ⟨a1, c1, e1, k1, k2, k3⟩ := hX2.out
    simp only [Value.slice.injEq, true_and] at e1
    obtain ⟨rfl, rfl⟩ := e1
    have hB2 := Keep.mk (held_on hb2 HB1.out)
    obtain ⟨a0, c0, rfl, h1, h2, _⟩ := hv
    have K3 := Keep.mk k3
    have L3 := Keep.mk l3
    unfold maxLen at k2 l2 h2
    have HF : Keep (∀ r ∈ rows, Fits (widths rows) r) := ⟨fun r hr => fits_row hr⟩
    have HP : Keep (∀ k, k < (widths rows).length → 1 ≤ (widths rows).getD k 0) := ⟨fun k hk => by
      rw [List.getD_eq_getElem?_getD, List.getElem?_eq_getElem hk]
      exact widths_pos rows _ (List.getElem_mem hk)⟩
    have hlin : Keep (∀ (i : Nat) r, rows[i]? = some r → (linesS rows)[i]? = some (mkS (lineL (widths rows) r))) := ⟨fun i r hi => by simp [linesS, hi]⟩
    generalize linesS rows = L at *
    generalize widths rows = ws at *
    clear hy hX hb1 hb2 hv1 l3 k3 HB1
    have hne : ((rows.length : Int) != (rows.length : Int)) = false := by simp
    go_wp2
    go_loopw [23] (fun i wr => ∃ k : Nat, k ≤ rows.length ∧ i = .int .i64 k ∧ Below w2.heap.size w2 wr) (fun i _ => rows.length - (intOf i).toNat)
    case atStart => exact ⟨0, Nat.zero_le _, rfl, Below.refl _ _⟩
    case round =>
      obtain ⟨i, hi, rfl, hbr⟩ := hrel
      by_cases hlt : i < rows.length
      · have hri : rows[i]? = some rows[i] := List.getElem?_eq_getElem hlt
        have hfit := HF.out _ (List.mem_of_getElem? hri)
        have hsi := hlin.out i _ hri
        obtain ⟨S, hSd⟩ : ∃ S, S = mkS (lineL ws rows[i]) := ⟨_, rfl⟩
        have hSz : S.size = posL ws ws.length := by rw [hSd, size_mkS, line_length hfit]
        obtain ⟨hS0, e0⟩ := byte_of hSd (line_head ws rows[i])
        have hb0 : (((S[0]'hS0).toNat : Int) != 124) = false := by rw [e0]; rfl
        have hbar : Keep (∀ k, k < ws.length → ∃ h : posL ws (k + 1) - 1 < S.size, S[posL ws (k + 1) - 1] = 124) := ⟨fun k hk => byte_of hSd (line_bar hfit hk)⟩
        rw [← hSd] at hsi
        obtain ⟨b, o, rfl, hb, hcl⟩ := L3.out i S hsi
        have hcl' := (hbr.cell (p := ⟨b, o + i, none⟩) hb).trans hcl
        have HC := Keep.mk hcl
        have hlen : ((S.size : Int) != ((posL ws ws.length : Nat) : Int)) = false := by rw [hSz]; simp
        have hcall := Keep.mk (fun n => length51_any (.slice ax ws.length cx) ws (wr.drewN n) (hX2.out.below (below_drewN hbr n) (Nat.le_refl _)) HSL.out)
        have i1 : (0 : Int) ≤ (i : Int) := by omega
        have i2 : (i : Int) < ((rows.length : Nat) : Int) := by omega
        have hple := posL_le HSL.out ws.length
        have hS9 : S.size ≤ 1000 := by omega
        clear hri hfit hsi hSd hSz e0 hcl
        generalize posL ws ws.length = P at *
        go_wp2
        go_quiet ((go_at_call 17; exact (hcall.out _).mono fun _ _ ⟨he, hw⟩ => ⟨he, _, hw.symm⟩))
        have hbq := Keep.mk (below_drewN hbr nq)
        clear hcl' hbr
        go_wp2
        go_loopw [6, 44] (fun t i' wi => ∃ k m : Nat, k ≤ ws.length ∧ i' = .int .i64 k ∧ t = .int .i64 m ∧ m ≤ 33 * k ∧ Keep (m + 1 = posL ws k) ∧ Below w2.heap.size w2 wi) (fun _ i' _ => ws.length - (intOf i').toNat)
        case atStart => exact ⟨0, 0, Nat.zero_le _, rfl, rfl, Nat.le_refl _, ⟨rfl⟩, hbq.out⟩
        case round =>
          obtain ⟨k, m, hk, rfl, rfl, hm, hM, hbi⟩ := hrel
          by_cases hltk : k < ws.length
          · obtain ⟨b2, o2, rfl, hb2, hcw⟩ := K3.out k (ws.getD k 0) (by rw [List.getD_eq_getElem?_getD, List.getElem?_eq_getElem hltk]; rfl)
            have hcw' := (hbi.cell (p := ⟨b2, o2 + k, none⟩) hb2).trans hcw
            have hcl2 := (hbi.cell (p := ⟨b, o + i, none⟩) hb).trans HC.out
            have hwk := HSL.out.2 k
            have hw1 := HP.out k hltk
            have hstep : posL ws (k + 1) = posL ws k + (ws.getD k 0 + 3) := rfl
            obtain ⟨hh, e1⟩ := hbar.out k hltk
            obtain ⟨y, hy⟩ : ∃ y, y = ws.getD k 0 := ⟨_, rfl⟩
            rw [← hy] at hcw' hwk hw1 hstep
            have hidx : posL ws (k + 1) - 1 = m + y + 3 := by have := hM.out; omega
            have hb3 : m + y + 3 < S.size := by omega
            have e2 : (((S[m + y + 3]'hb3).toNat : Int) != 124) = false := by
              have : S[m + y + 3]'hb3 = 124 := by rw [← e1]; congr 1; omega
              rw [this]; rfl
            have HM2 : Keep (m + y + 3 + 1 = posL ws (k + 1)) := ⟨by have := posL_pos ws (k + 1); omega⟩
            clear hcw hstep e1 hy hidx hh
            go_wp2
            go_roundw
            case rel => exact ⟨k + 1, m + y + 3, by omega, by go_num, by go_num, by omega, HM2, hbi⟩
            case measure => simp [intOf]; omega
          · go_wp2
            go_roundw
            case rel => exact ⟨i + 1, by omega, by go_num, hbi⟩
            case measure => simp [intOf]; omega
      · have hB3 := Keep.mk (held_on hbr hB2.out)
        clear hbr
        go_wp2_with fail
        refine (awake51_any _).mono ?_
        rintro e w6 ⟨rfl, hb6⟩
        go_wp2
        go_ret
        exact ⟨rfl, held_on hb6 hB3.out⟩
theorem TableAlignment_walk : LawWalk 4 Try.f4 := by
  intro H enc W base args ds ps hval hA hsz
  rw [Try.params4] at hA hval hsz
  obtain ⟨v0, vs0, d0, ds0, p0, q0, hargs, rfl, rfl, h0, r0⟩ := trodAll_cons hA
  obtain ⟨rfl, rfl, rfl⟩ := trodAll_nil r0
  obtain rfl : args = #[v0] := by cases args; simp_all
  obtain ⟨rows, h1, h2, h3, h4⟩ := open_rows (hval 0 22 v0 rfl rfl) h0 (sized_each hsz (j := 0) rfl rfl)
  exact tableAlignment_any v0 rows W ⟨h1, h2, h3, h4⟩
end Go.Proofs.Ytofhokggcpeldaa
namespace Go.Proofs.Ytofhokggcpeldaa
open Go.ChangeShapes Go.WideShapes Go.ChangeAt Go.RowKit
set_option maxRecDepth 100000 in
theorem TableAlignment_lifted (os : Os) (started : os.Started) (H : Type) (enc : TypeId × Value → H) :
    ReturnsInHanded {} Try.checked os 4 .any (Rows.tableAlignmentSpec.pre6 enc Try.prog Try.f4 Rows.tableAlignmentRow.domain false) (Rows.tableAlignmentSpec.post enc Try.prog Try.f4 false true false false) := by
  refine returnsInHanded_of_change_sized (C := Try.checked) own started (by kernel_rfl) Try.func4
    (ChangeSpec.witness6 (enc := enc) (C := Try.checked) false ⟨#[], #[.slice none 0 0], []⟩ 8 (by kernel_rfl) (by kernel_rfl) (by kernel_rfl) (by kernel_rfl)) ?_
  exact law_contract (by kernel_rfl) (by kernel_rfl) ⟨rfl, fun H ds h => by rw [Try.params4] at h; match ds, h with | [d0], _ => rfl⟩ TableAlignment_walk
theorem TableAlignment_over : Rows.tableAlignmentRow.holds Try.pinned (OpenSpec.ofChange Rows.tableAlignmentSpec) :=
  OpenClaim.holds_of_wide 4 Try.f4 rfl rfl rfl rfl rfl rfl rfl ⟨rfl, rfl, rfl, rfl, rfl⟩ rfl rfl rfl rfl rfl (by kernel_rfl) Try.func4 (by kernel_rfl)
    (of_decide_eq_true (by kernel_rfl)) (by unfold Func.isWrapper; first | (rw [if_pos (by decide +kernel)]; kernel_rfl) | (rw [if_neg (by decide +kernel)]; exact ⟨rfl, rfl⟩))
    (fun os started H enc _ => TableAlignment_lifted os started H enc)
theorem TableAlignment_proved : Rows.TableAlignmentSaid := TableAlignment_over
end Go.Proofs.Ytofhokggcpeldaa
