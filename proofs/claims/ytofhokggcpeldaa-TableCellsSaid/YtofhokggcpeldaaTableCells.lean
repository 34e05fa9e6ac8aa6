/- The law TableCells: every cell stands at the beginning of its column, and the rest of the column is blank. No condition. -/
import Derived.Test.YtofhokggcpeldaaTabLaw
namespace Go.Proofs.Ytofhokggcpeldaa
open Go.RowKit Go.Shelf Go.Proofs.Ytofhokggcpeldaa.Table Go.ChangeShapes Go.WideShapes Go.ChangeAt

theorem pad_blank {w i : Nat} {c : List UInt8} (h : c.length ≤ w) (h1 : c.length + 1 ≤ i) (h2 : i < w + 2) : (padL w c)[i]? = some 32 := by
  unfold padL
  obtain ⟨j, rfl⟩ : ∃ j, i = j + 1 := ⟨i - 1, by omega⟩
  rw [List.getElem?_cons_succ, List.getElem?_append_right (by omega)]
  by_cases hj : j - c.length < w - c.length
  · rw [List.getElem?_append_left (by simpa using hj)]
    simp [hj]
  · rw [List.getElem?_append_right (by simp; omega)]
    rw [show j - c.length - (List.replicate (w - c.length) (32 : UInt8)).length = 0 by simp; omega]; rfl
theorem extract_mid (s : ByteArray) (i j : Nat) : s.extract i j = mkS ((s.data.toList.drop i).take (j - i)) := by rw [Lib.extract_eq]; rfl
theorem line_cell {S : ByteArray} {ws : List Nat} {r : Row} (hS : S = mkS (lineL ws r)) (h : Fits ws r) {k : Nat} (hk : k < ws.length) : S.extract (posL ws k + 1) (posL ws k + 1 + (cellAt r k).size) = cellAt r k := by
  obtain ⟨rest, hr⟩ := line_drop h hk
  rw [extract_mid, hS, data_mkS, ← List.drop_drop, hr, padL, List.cons_append, List.drop_succ_cons, List.drop_zero, List.append_assoc,
    show posL ws k + 1 + (cellAt r k).size - (posL ws k + 1) = (cellAt r k).data.toList.length by simp, List.take_left, mkS_data]

set_option maxRecDepth 100000 in
set_option maxHeartbeats 4000000 in
theorem tableCells_any (v : Value) (rows : List Row) (w : World) (hv : RowsOk w v rows) :
    Calls Try.prog 5 #[v] w fun e w' => e = .returned (.bool true) ∧ Below w.heap.size w w' := by
  obtain ⟨hv, hr, hc, _⟩ := hv
  go_enter Try.func5, Try.ntmps5
  go_wp2_with fail
  refine (great51_any v rows w hv hc).mono ?_
  rintro e w' ⟨⟨g, rfl, hg⟩, rfl⟩
  clear hc
  cases g with
  | true =>
    clear hg
    go_wp2_with fail
    refine (awake51_any _).mono ?_
    rintro e w2 ⟨rfl, hb2⟩
    go_wp2
    go_ret
    exact ⟨rfl, hb2⟩
  | false =>
    obtain ⟨hn, hs⟩ := hg rfl
    have HS := Keep.mk hs
    have hslim := small_widths hs
    have HSL : Keep (Slim (widths rows)) := ⟨hslim⟩
    have hw8 := hslim.1
    clear hg hs hslim
    go_wp2_with fail
    refine (widths_any v rows w hv hr).mono ?_
    rintro e w1 ⟨x, rfl, hx, hb1⟩
    have hv1 := hv.below hb1 (Nat.le_refl _)
    have hX := Nums.of_owns hx
    obtain ⟨ax, cx, rfl⟩ := ownsRow_slice hx
    have HB1 := Keep.mk hb1
    clear hx hr
    go_wp2_with fail
    refine (lines_any v rows w1 hv1 HS.out (by omega)).mono ?_
    rintro e w2 ⟨y, rfl, hy, hb2⟩
    obtain ⟨ay, cy, rfl⟩ := ownsRow_slice hy
    have hX2 := Keep.mk (hX.below hb2 (Nat.le_refl _))
    have hV2 := hv1.below hb2 (Nat.le_refl _)
    obtain ⟨a2, c2, e2, l1, l2, l3⟩ := (Strs.of_owns hy).parts
    rw [linesS_length] at e2 l1
    simp only [Value.slice.injEq, true_and] at e2
    obtain ⟨rfl, rfl⟩ := e2
    obtain ⟨a1, c1, e1, k1, k2, k3⟩ := hX2.out
    simp only [Value.slice.injEq, true_and] at e1
    obtain ⟨rfl, rfl⟩ := e1
    have hB2 := Keep.mk (held_on hb2 HB1.out)
    clear hv hv1
    obtain ⟨a0, c0, rfl, h1, h2, h3⟩ := hV2
    have K3 := Keep.mk k3
    have L3 := Keep.mk l3
    have H3 := Keep.mk h3
    unfold maxLen at k2 l2 h2
    have HF : Keep (∀ r ∈ rows, Fits (widths rows) r) := ⟨fun r hr => fits_row hr⟩
    have HP : Keep (∀ k, k < (widths rows).length → 1 ≤ (widths rows).getD k 0) := ⟨fun k hk => by
      rw [List.getD_eq_getElem?_getD, List.getElem?_eq_getElem hk]
      exact widths_pos rows _ (List.getElem_mem hk)⟩
    have hlin : Keep (∀ (i : Nat) r, rows[i]? = some r → (linesS rows)[i]? = some (mkS (lineL (widths rows) r))) := ⟨fun i r hi => by simp [linesS, hi]⟩
    generalize linesS rows = L at *
    generalize widths rows = ws at *
    clear hy hX hb1 hb2 l3 k3 HB1 h3
    have hne : ((rows.length : Int) != (rows.length : Int)) = false := by simp
    go_wp2
    go_loopw [26] (fun i wr => ∃ k : Nat, k ≤ rows.length ∧ i = .int .i64 k ∧ Below w2.heap.size w2 wr) (fun i _ => rows.length - (intOf i).toNat)
    case atStart => exact ⟨0, Nat.zero_le _, rfl, Below.refl _ _⟩
    case round =>
      obtain ⟨i, hi, rfl, hbr⟩ := hrel
      by_cases hlt : i < rows.length
      · obtain ⟨r, hri⟩ : ∃ r, rows[i]? = some r := ⟨_, List.getElem?_eq_getElem hlt⟩
        have hfit := HF.out _ (List.mem_of_getElem? hri)
        have hsm := HS.out _ (List.mem_of_getElem? hri)
        have hsi := hlin.out i _ hri
        obtain ⟨S, hSd⟩ : ∃ S, S = mkS (lineL ws r) := ⟨_, rfl⟩
        have hSz : S.size = posL ws ws.length := by rw [hSd, size_mkS, line_length hfit]
        rw [← hSd] at hsi
        obtain ⟨b, o, rfl, hb, hcl⟩ := L3.out i S hsi
        obtain ⟨b3, o3, u, rfl, hb3, hcu, hSr⟩ := H3.out i r hri
        obtain ⟨a4, c4, rfl, g1, g2, g3⟩ := hSr.parts
        have G3 := Keep.mk g3
        have hcl' := (hbr.cell (p := ⟨b, o + i, none⟩) hb).trans hcl
        have HCU := Keep.mk hcu
        have hple := posL_le HSL.out ws.length
        have hS9 : S.size ≤ 1000 := by omega
        have HSZ := Keep.mk hSz
        have HSD := Keep.mk hSd
        have HFI := Keep.mk hfit
        unfold maxLen at g2
        clear hri hfit hsi hcl hSd hSz hSr g3 hcu hple
        go_wp2
        go_loopw [7, 35] (fun t i' wi => ∃ k : Nat, k ≤ ws.length ∧ i' = .int .i64 k ∧ t = .int .i64 (posL ws k) ∧ Below w2.heap.size w2 wi) (fun _ i' _ => ws.length - (intOf i').toNat)
        case atStart => exact ⟨0, Nat.zero_le _, rfl, rfl, hbr⟩
        case round =>
          obtain ⟨k, hk, rfl, rfl, hbi⟩ := hrel
          by_cases hltk : k < ws.length
          · obtain ⟨b2, o2, rfl, hb2, hcw⟩ := K3.out k (ws.getD k 0) (by rw [List.getD_eq_getElem?_getD, List.getElem?_eq_getElem hltk]; rfl)
            have hcw' := (hbi.cell (p := ⟨b2, o2 + k, none⟩) hb2).trans hcw
            have HCW := Keep.mk hcw
            have HBI := Keep.mk hbi
            have hcu' := (hbi.cell (p := ⟨b3, o3 + i, none⟩) hb3).trans HCU.out
            have hwk := HSL.out.2 k
            have hw1 := HP.out k hltk
            have hmono := posL_mono ws (j := k + 1) (k := ws.length) (by omega)
            have hfk : (cellAt r k).size ≤ ws.getD k 0 := (HFI.out k).elim id (fun h => by omega)
            have hfl : (cellAt r k).data.toList.length ≤ ws.getD k 0 := by simpa using hfk
            have hext := line_cell HSD.out HFI.out hltk
            have hat : ∀ j, j < ws.getD k 0 + 3 → (lineL ws r)[posL ws k + j]? = (padL (ws.getD k 0) (cellAt r k).data.toList)[j]? := fun j hj => line_at HFI.out hltk hj
            have hpS : posL ws k + (ws.getD k 0 + 3) ≤ S.size := by rw [HSZ.out]; exact hmono
            obtain ⟨c, hcd⟩ : ∃ c, c = cellAt r k := ⟨_, rfl⟩
            have hstep : Keep (posL ws (k + 1) = posL ws k + ws.getD k 0 + 3) := ⟨rfl⟩
            have hb0 := byte_of HSD.out ((hat 0 (by omega)).trans (show (padL (ws.getD k 0) (cellAt r k).data.toList)[0]? = some 32 from rfl))
            have hbl : Keep (∀ j, posL ws k + 1 + (cellAt r k).size ≤ j → j < posL ws k + ws.getD k 0 + 2 → ∃ h : j < S.size, S[j] = 32) := ⟨fun j h1 h2 => by
              have := (hat (j - posL ws k) (by omega)).trans (pad_blank hfl (by simp; omega) (by omega))
              rw [show posL ws k + (j - posL ws k) = j by omega] at this
              exact byte_of HSD.out this⟩
            rw [← hcd] at hext hbl hfk
            have hp9 : posL ws k ≤ 1000 := by omega
            obtain ⟨p, hp⟩ : ∃ p, p = posL ws k := ⟨_, rfl⟩
            obtain ⟨y, hy⟩ : ∃ y, y = ws.getD k 0 := ⟨_, rfl⟩
            rw [← hp] at hext hbl hpS hstep hb0 hp9 ⊢
            rw [← hy] at hcw' hwk hw1 hfk hpS hstep hbl HCW
            obtain ⟨hp0, e0⟩ := hb0
            have hpS' : p < S.size := by omega
            have e0' : (((S[p]'hpS').toNat : Int) != 32) = false := by rw [show S[p]'hpS' = 32 from e0]; rfl
            have hxx : (c.toList != c.toList) = false := by simp
            clear hcw hp hy e0 hat hmono hfl hp0
            by_cases hkr : k < r.length
            · obtain ⟨b5, o5, rfl, hb5, hcc⟩ := G3.out k c (by rw [hcd]; unfold cellAt; rw [List.getD_eq_getElem?_getD, List.getElem?_eq_getElem hkr]; rfl)
              have hcc' := (hbi.cell (p := ⟨b5, o5 + k, none⟩) hb5).trans hcc
              clear hcd hcc
              go_wp2
              go_loopw [10] (fun j wk => ∃ q : Nat, p + 1 + c.size ≤ q ∧ q ≤ p + y + 2 ∧ j = .int .i64 q ∧ Below w2.heap.size w2 wk) (fun j _ => p + y + 2 - (intOf j).toNat)
              case atStart => exact ⟨p + 1 + c.size, Nat.le_refl _, by omega, by go_num, HBI.out⟩
              case round =>
                obtain ⟨q, hq1, hq2, rfl, hbk⟩ := hrel
                have hcw2 := (hbk.cell (p := ⟨b2, o2 + k, none⟩) hb2).trans HCW.out
                by_cases hlq : q < p + y + 2
                · obtain ⟨hqS, eq⟩ := hbl.out q hq1 (by omega)
                  have eq' : (((S[q]'hqS).toNat : Int) != 32) = false := by rw [eq]; rfl
                  clear eq
                  go_wp2
                  go_roundw
                  case rel => exact ⟨q + 1, by omega, by omega, by go_num, hbk⟩
                  case measure => simp [intOf]; omega
                · go_wp2
                  go_roundw
                  case rel => exact ⟨k + 1, by omega, by go_num, by rw [hstep.out]; go_num, hbk⟩
                  case measure => simp [intOf]; omega
            · have hce : c = ⟨#[]⟩ := by rw [hcd]; unfold cellAt; rw [List.getD_eq_getElem?_getD, List.getElem?_eq_none (by omega)]; rfl
              clear hcd
              subst hce
              have hex0 : S.extract (p + 1) (p + 1) = ⟨#[]⟩ := hext
              have hbl : Keep (∀ j, p + 1 + 0 ≤ j → j < p + y + 2 → ∃ h : j < S.size, S[j] = 32) := hbl
              clear hext
              go_wp2
              go_loopw [10] (fun j wk => ∃ q : Nat, p + 1 + 0 ≤ q ∧ q ≤ p + y + 2 ∧ j = .int .i64 q ∧ Below w2.heap.size w2 wk) (fun j _ => p + y + 2 - (intOf j).toNat)
              case atStart => exact ⟨p + 1 + 0, Nat.le_refl _, by omega, by go_num, HBI.out⟩
              case round =>
                obtain ⟨q, hq1, hq2, rfl, hbk⟩ := hrel
                have hcw2 := (hbk.cell (p := ⟨b2, o2 + k, none⟩) hb2).trans HCW.out
                by_cases hlq : q < p + y + 2
                · obtain ⟨hqS, eq⟩ := hbl.out q hq1 (by omega)
                  have eq' : (((S[q]'hqS).toNat : Int) != 32) = false := by rw [eq]; rfl
                  clear eq
                  go_wp2
                  go_roundw
                  case rel => exact ⟨q + 1, by omega, by omega, by go_num, hbk⟩
                  case measure => simp [intOf]; omega
                · go_wp2
                  go_roundw
                  case rel => exact ⟨k + 1, by omega, by go_num, by rw [hstep.out]; go_num, hbk⟩
                  case measure => simp [intOf]; omega
          · go_wp2
            go_roundw
            case rel => exact ⟨i + 1, by omega, by go_num, hbi⟩
            case measure => simp [intOf]; omega
      · have hB3 := Keep.mk (held_on hbr hB2.out)
        clear hbr
        go_wp2_with fail
        refine (awake51_any _).mono ?_
        rintro e w6 ⟨rfl, hb6⟩
        go_wp2
        go_ret
        exact ⟨rfl, held_on hb6 hB3.out⟩
theorem TableCells_walk : LawWalk 5 Try.f5 := by
  intro H enc W base args ds ps hval hA hsz
  rw [Try.params5] at hA hval hsz
  obtain ⟨v0, vs0, d0, ds0, p0, q0, hargs, rfl, rfl, h0, r0⟩ := trodAll_cons hA
  obtain ⟨rfl, rfl, rfl⟩ := trodAll_nil r0
  obtain rfl : args = #[v0] := by cases args; simp_all
  obtain ⟨rows, h1, h2, h3, h4⟩ := open_rows (hval 0 22 v0 rfl rfl) h0 (sized_each hsz (j := 0) rfl rfl)
  exact tableCells_any v0 rows W ⟨h1, h2, h3, h4⟩
end Go.Proofs.Ytofhokggcpeldaa
namespace Go.Proofs.Ytofhokggcpeldaa
open Go.ChangeShapes Go.WideShapes Go.ChangeAt Go.RowKit
set_option maxRecDepth 100000 in
theorem TableCells_lifted (os : Os) (started : os.Started) (H : Type) (enc : TypeId × Value → H) :
    ReturnsInHanded {} Try.checked os 5 .any (Rows.tableCellsSpec.pre6 enc Try.prog Try.f5 Rows.tableCellsRow.domain false) (Rows.tableCellsSpec.post enc Try.prog Try.f5 false true false false) := by
  refine returnsInHanded_of_change_sized (C := Try.checked) own started (by kernel_rfl) Try.func5
    (ChangeSpec.witness6 (enc := enc) (C := Try.checked) false ⟨#[], #[.slice none 0 0], []⟩ 8 (by kernel_rfl) (by kernel_rfl) (by kernel_rfl) (by kernel_rfl)) ?_
  exact law_contract (by kernel_rfl) (by kernel_rfl) ⟨rfl, fun H ds h => by rw [Try.params5] at h; match ds, h with | [d0], _ => rfl⟩ TableCells_walk
theorem TableCells_over : Rows.tableCellsRow.holds Try.pinned (OpenSpec.ofChange Rows.tableCellsSpec) :=
  OpenClaim.holds_of_wide 5 Try.f5 rfl rfl rfl rfl rfl rfl rfl ⟨rfl, rfl, rfl, rfl, rfl⟩ rfl rfl rfl rfl rfl (by kernel_rfl) Try.func5 (by kernel_rfl)
    (of_decide_eq_true (by kernel_rfl)) (by unfold Func.isWrapper; first | (rw [if_pos (by decide +kernel)]; kernel_rfl) | (rw [if_neg (by decide +kernel)]; exact ⟨rfl, rfl⟩))
    (fun os started H enc _ => TableCells_lifted os started H enc)
theorem TableCells_proved : Rows.TableCellsSaid := TableCells_over
end Go.Proofs.Ytofhokggcpeldaa
