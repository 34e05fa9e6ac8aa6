/- The law TableLines: Widths and Lines return the results of the reference implementation. No condition. -/
import Derived.Test.YtofhokggcpeldaaTabAwake
namespace Go.Proofs.Ytofhokggcpeldaa
open Go.RowKit Go.Shelf Go.Proofs.Ytofhokggcpeldaa.Table Go.ChangeShapes Go.WideShapes Go.ChangeAt

/-- What a law over rows is handed. -/
structure RowsOk (w : World) (v : Value) (rows : List Row) : Prop where
  lies : TRows w v rows
  short : ∀ r ∈ rows, r.length ≤ 8796093022208
  cells : ∀ r ∈ rows, ∀ c ∈ r, c.size ≤ 140737488355328
  room : rows.length * 24 ≤ 140737488355328

set_option maxHeartbeats 2000000 in
theorem tableLines_any (v : Value) (rows : List Row) (w : World) (hv : RowsOk w v rows) :
    Calls Try.prog 3 #[v] w fun e w' => e = .returned (.bool true) ∧ Below w.heap.size w w' := by
  obtain ⟨hv, hr, hc, _⟩ := hv
  go_enter Try.func3, Try.ntmps3
  go_wp2_with fail
  refine (great51_any v rows w hv hc).mono ?_
  rintro e w' ⟨⟨g, rfl, hg⟩, rfl⟩
  clear hc
  cases g with
  | true =>
    clear hg
    go_wp2_with fail
    refine (awake51_any _).mono ?_
    rintro e w2 ⟨rfl, hb2⟩
    go_wp2
    go_ret
    exact ⟨rfl, hb2⟩
  | false =>
    obtain ⟨hn, hs⟩ := hg rfl
    have HS := Keep.mk hs
    have HR := Keep.mk hr
    clear hg hs hr
    go_wp2_with fail
    refine (widths_any v rows w hv HR.out).mono ?_
    rintro e w1 ⟨x, rfl, hx, hb1⟩
    have hv1 := hv.below hb1 (Nat.le_refl _)
    have hX := Nums.of_owns hx
    obtain ⟨ax, cx, rfl⟩ := ownsRow_slice hx
    clear hx
    go_wp2_with fail
    refine (refWidths_any v rows w1 hv1 HR.out).mono ?_
    rintro e w2 ⟨y, rfl, hy, hb2⟩
    have hv2 := hv1.below hb2 (Nat.le_refl _)
    have hX2 := hX.below hb2 (Nat.le_refl _)
    have hY2 := Nums.of_owns hy
    obtain ⟨ay, cy, rfl⟩ := ownsRow_slice hy
    have hB2 := Keep.mk (held_on hb2 hb1)
    obtain ⟨a1, c1, e1, k1, k2, k3⟩ := hX2
    obtain ⟨a2, c2, e2, l1, l2, l3⟩ := hY2
    simp only [Value.slice.injEq, true_and] at e1 e2
    obtain ⟨rfl, rfl⟩ := e1
    obtain ⟨rfl, rfl⟩ := e2
    have K3 := Keep.mk k3
    have L3 := Keep.mk l3
    have hL1 := Keep.mk (fun wx hx => lines_any v rows wx hx HS.out (by omega))
    have hL2 := Keep.mk (fun wx hx => refLines_any v rows wx hx HS.out (by omega))
    have hV2 := Keep.mk hv2
    unfold maxLen at k2 l2
    generalize widths rows = ws at *
    clear hy hX hb1 hb2 hv hv1 hv2 k3 l3
    have hne : ((ws.length : Int) != (ws.length : Int)) = false := by simp
    go_wp2
    go_loopw [21] (fun i wr => ∃ k : Nat, k ≤ ws.length ∧ i = .int .i64 k ∧ Below w2.heap.size w2 wr) (fun i _ => ws.length - (intOf i).toNat)
    case atStart => exact ⟨0, Nat.zero_le _, rfl, Below.refl _ _⟩
    case round =>
      obtain ⟨k, hk, rfl, hbr⟩ := hrel
      by_cases hlt : k < ws.length
      · obtain ⟨b1, o1, rfl, hl1, hc1⟩ := K3.out k ws[k] (List.getElem?_eq_getElem hlt)
        obtain ⟨b2, o2, rfl, hl2, hc2⟩ := L3.out k ws[k] (List.getElem?_eq_getElem hlt)
        generalize ws[k] = n at *
        have hnn : ((n : Int) != (n : Int)) = false := by simp
        have hc1' := (hbr.cell (p := ⟨b1, o1 + k, none⟩) hl1).trans hc1
        have hc2' := (hbr.cell (p := ⟨b2, o2 + k, none⟩) hl2).trans hc2
        have i1 : (0 : Int) ≤ (k : Int) := by omega
        have i2 : (k : Int) < ((ws.length : Nat) : Int) := by omega
        clear hc1 hc2
        go_wp2
        go_quiet (fail)
        go_wp2
        go_roundw
        case rel => exact ⟨k + 1, by omega, by go_num, below_drewN hbr _⟩
        case measure => simp [intOf]; omega
      · have hv2 := hV2.out.below hbr (Nat.le_refl _)
        have hB2 := Keep.mk (held_on hbr hB2.out)
        clear hbr
        go_wp2_with fail
        refine (hL1.out _ hv2).mono ?_
        rintro e w3 ⟨p, rfl, hp, hb3⟩
        have hv3 := hv2.below hb3 (Nat.le_refl _)
        have hP := Strs.of_owns hp
        have hB3 := Keep.mk (held_on hb3 hB2.out)
        clear hp
        go_wp2_with fail
        refine (hL2.out _ hv3).mono ?_
        rintro e w4 ⟨q, rfl, hq, hb4⟩
        have hP4 := hP.below hb4 (Nat.le_refl _)
        have hQ := Strs.of_owns hq
        have hB4 := Keep.mk (held_on hb4 hB3.out)
        clear hq hP hb3 hb4 hv3
        go_wp2_with fail
        refine (same51_any p q _ _ w4 hP4 hQ).mono ?_
        rintro e w5 ⟨rfl, hb5⟩
        have hB5 := Keep.mk (held_on hb5 hB4.out)
        rw [decide_eq_true rfl]
        clear hP4 hQ hb5
        go_wp2_with fail
        refine (awake51_any _).mono ?_
        rintro e w6 ⟨rfl, hb6⟩
        go_wp2
        go_ret
        exact ⟨rfl, held_on hb6 hB5.out⟩
theorem TableLines_walk : LawWalk 3 Try.f3 := by
  intro H enc W base args ds ps hval hA hsz
  rw [Try.params3] at hA hval hsz
  obtain ⟨v0, vs0, d0, ds0, p0, q0, hargs, rfl, rfl, h0, r0⟩ := trodAll_cons hA
  obtain ⟨rfl, rfl, rfl⟩ := trodAll_nil r0
  obtain rfl : args = #[v0] := by cases args; simp_all
  obtain ⟨rows, h1, h2, h3, h4⟩ := open_rows (hval 0 22 v0 rfl rfl) h0 (sized_each hsz (j := 0) rfl rfl)
  exact tableLines_any v0 rows W ⟨h1, h2, h3, h4⟩
end Go.Proofs.Ytofhokggcpeldaa
namespace Go.Proofs.Ytofhokggcpeldaa
open Go.ChangeShapes Go.WideShapes Go.ChangeAt Go.RowKit
set_option maxRecDepth 100000 in
theorem TableLines_lifted (os : Os) (started : os.Started) (H : Type) (enc : TypeId × Value → H) :
    ReturnsInHanded {} Try.checked os 3 .any (Rows.tableLinesSpec.pre6 enc Try.prog Try.f3 Rows.tableLinesRow.domain false) (Rows.tableLinesSpec.post enc Try.prog Try.f3 false true false false) := by
  refine returnsInHanded_of_change_sized (C := Try.checked) own started (by kernel_rfl) Try.func3
    (ChangeSpec.witness6 (enc := enc) (C := Try.checked) false ⟨#[], #[.slice none 0 0], []⟩ 8 (by kernel_rfl) (by kernel_rfl) (by kernel_rfl) (by kernel_rfl)) ?_
  exact law_contract (by kernel_rfl) (by kernel_rfl) ⟨rfl, fun H ds h => by rw [Try.params3] at h; match ds, h with | [d0], _ => rfl⟩ TableLines_walk
theorem TableLines_over : Rows.tableLinesRow.holds Try.pinned (OpenSpec.ofChange Rows.tableLinesSpec) :=
  OpenClaim.holds_of_wide 3 Try.f3 rfl rfl rfl rfl rfl rfl rfl ⟨rfl, rfl, rfl, rfl, rfl⟩ rfl rfl rfl rfl rfl (by kernel_rfl) Try.func3 (by kernel_rfl)
    (of_decide_eq_true (by kernel_rfl)) (by unfold Func.isWrapper; first | (rw [if_pos (by decide +kernel)]; kernel_rfl) | (rw [if_neg (by decide +kernel)]; exact ⟨rfl, rfl⟩))
    (fun os started H enc _ => TableLines_lifted os started H enc)
theorem TableLines_proved : Rows.TableLinesSaid := TableLines_over
end Go.Proofs.Ytofhokggcpeldaa
