/- The law TableAppends: adding a row whose cells are not wider than the columns changes no other line. No condition. -/
import Derived.Test.YtofhokggcpeldaaTabMore
import Derived.Test.YtofhokggcpeldaaClass
namespace Go.Proofs.Ytofhokggcpeldaa
open Go.RowKit Go.Shelf Go.Proofs.Ytofhokggcpeldaa.Table Go.ChangeShapes Go.WideShapes Go.ChangeAt

set_option maxRecDepth 100000 in
set_option maxHeartbeats 4000000 in
theorem tableAppends_any (v z : Value) (rows : List Row) (row : Row) (w : World) (hv : RowsOk w v rows) (hz : Strs w z row) (hzc : ∀ c ∈ row, c.size ≤ 140737488355328) :
    Calls Try.prog 6 #[v, z] w fun e w' => e = .returned (.bool true) ∧ Below w.heap.size w w' := by
  obtain ⟨hv, hr, hc, _⟩ := hv
  obtain ⟨az, cz, rfl, q1, q2, q3⟩ := hz.parts
  have HZ := Keep.mk hz
  have Q3 := Keep.mk q3
  have HZC := Keep.mk hzc
  unfold maxLen at q2
  clear q3 hzc hz
  go_enter Try.func6, Try.ntmps6
  go_wp2_with fail
  refine (widths_any v rows w hv hr).mono ?_
  rintro e w1 ⟨x, rfl, hx, hb1⟩
  have hv1 := hv.below hb1 (Nat.le_refl _)
  have hX := Keep.mk (Nums.of_owns hx)
  obtain ⟨ax, cx, rfl⟩ := ownsRow_slice hx
  obtain ⟨a1, c1, e1, k1, k2, k3⟩ := hX.out
  simp only [Value.slice.injEq, true_and] at e1
  obtain ⟨rfl, rfl⟩ := e1
  have K3 := Keep.mk k3
  have HB1 := Keep.mk hb1
  have HZ1 := Keep.mk (HZ.out.below hb1 (Nat.le_refl _))
  unfold maxLen at k2
  clear hx k3 hr
  go_wp2_with fail
  refine (great51_any v rows w1 hv1 hc).mono ?_
  rintro e w' ⟨⟨g, rfl, hg⟩, rfl⟩
  clear hc
  cases g with
  | true =>
    clear hg
    go_wp2_with fail
    refine (awake51_any _).mono ?_
    rintro e w2 ⟨rfl, hb2⟩
    go_wp2
    go_ret
    exact ⟨rfl, held_on hb2 HB1.out⟩
  | false =>
    obtain ⟨hn, hs⟩ := hg rfl
    have HS := Keep.mk hs
    have hslim := small_widths hs
    have HSL : Keep (Slim (widths rows)) := ⟨hslim⟩
    have hw8 := hslim.1
    have HV1 := Keep.mk hv1
    clear hg hs hslim hv1 hv
    by_cases hlong : (widths rows).length < row.length
    · have hlong' : ((widths rows).length : Int) < (row.length : Int) := by omega
      go_wp2_with fail
      refine (awake51_any _).mono ?_
      rintro e w2 ⟨rfl, hb2⟩
      go_wp2
      go_ret
      exact ⟨rfl, held_on hb2 HB1.out⟩
    · have hlong' : ¬ ((widths rows).length : Int) < (row.length : Int) := by omega
      obtain ⟨ws, hws⟩ : ∃ ws, ws = widths rows := ⟨_, rfl⟩
      have HWS := Keep.mk hws
      rw [← hws] at K3 HSL hX k1 hw8 hlong hlong' ⊢
      clear hws
      go_wp2
      go_loopw [24] (fun i wr => ∃ k : Nat, k ≤ row.length ∧ i = .int .i64 k ∧ Keep (∀ j (c : ByteArray), j < k → row[j]? = some c → c.size ≤ ws.getD j 0) ∧ Below w1.heap.size w1 wr) (fun i _ => row.length - (intOf i).toNat)
      case atStart => exact ⟨0, Nat.zero_le _, rfl, ⟨fun j c h => by omega⟩, Below.refl _ _⟩
      case round =>
        obtain ⟨k, hk, rfl, hfit, hbr⟩ := hrel
        by_cases hlt : k < row.length
        · obtain ⟨c, hc⟩ : ∃ c, row[k]? = some c := ⟨_, List.getElem?_eq_getElem hlt⟩
          obtain ⟨b1, o1, rfl, hb1', hc1⟩ := Q3.out k c hc
          obtain ⟨b2, o2, rfl, hb2', hc2⟩ := K3.out k (ws.getD k 0) (by rw [List.getD_eq_getElem?_getD, List.getElem?_eq_getElem (by omega)]; rfl)
          have hc1' := (hbr.cell (p := ⟨b1, o1 + k, none⟩) (by have := HB1.out.size; simp; omega)).trans ((HB1.out.cell (p := ⟨b1, o1 + k, none⟩) hb1').trans hc1)
          have hc2' := (hbr.cell (p := ⟨b2, o2 + k, none⟩) hb2').trans hc2
          have hcs := HZC.out c (List.mem_of_getElem? hc)
          have hwk := HSL.out.2 k
          have hnext : Keep (c.size ≤ ws.getD k 0 → ∀ j (c : ByteArray), j < k + 1 → row[j]? = some c → c.size ≤ ws.getD j 0) := ⟨fun h j c' hj hc' => by
            by_cases e : j = k
            · subst e; rw [hc] at hc'; cases hc'; exact h
            · exact hfit.out j c' (by omega) hc'⟩
          have i1 : (0 : Int) ≤ (k : Int) := by omega
          have i2 : (k : Int) < ((row.length : Nat) : Int) := by omega
          have i3 : (k : Int) < ((ws.length : Nat) : Int) := by omega
          generalize ws.getD k 0 = y at *
          clear hc hc1 hc2
          by_cases hbig : y < c.size
          · have hbig' : (y : Int) < (c.size : Int) := by omega
            go_wp2
            go_quiet (fail)
            have hB2 := Keep.mk (held_on (below_drewN hbr nq) HB1.out)
            go_wp2_with fail
            refine (awake51_any _).mono ?_
            rintro e w2 ⟨rfl, hb2⟩
            go_wp2
            go_ret
            exact ⟨rfl, held_on hb2 hB2.out⟩
          · have hbig' : ¬ (y : Int) < (c.size : Int) := by omega
            have hn2 := Keep.mk (hnext.out (by omega))
            go_wp2
            go_quiet (fail)
            go_wp2
            go_roundw
            case rel => exact ⟨k + 1, by omega, by go_num, hn2, below_drewN hbr _⟩
            case measure => simp [intOf]; omega
        · have hall : ∀ j (c : ByteArray), row[j]? = some c → c.size ≤ (widths rows).getD j 0 := fun j c hc => by
            rw [← HWS.out]
            exact hfit.out j c (by have := (List.getElem?_eq_some_iff.1 hc).1; omega) hc
          have hwid : widths (rows ++ [row]) = widths rows := widths_fits (by rw [← HWS.out]; omega) hall
          have hsnoc := Keep.mk (linesS_snoc hwid)
          have hfits := Keep.mk (fits_of hall)
          have hsmall : Keep (∀ r ∈ rows ++ [row], Small r) := ⟨fun r hr => by
            rcases List.mem_append.1 hr with h | h
            · exact HS.out r h
            · rw [List.mem_singleton] at h
              subst h
              refine ⟨by omega, fun c hc => ?_⟩
              obtain ⟨i, hi⟩ := List.mem_iff_getElem?.1 hc
              have h1 := hall i c hi
              have h2 := HSL.out.2 i
              rw [HWS.out] at h2
              omega⟩
          rw [← HWS.out] at hsnoc hfits
          have hv2 := HV1.out.below hbr (Nat.le_refl _)
          have hz2 := Keep.mk (HZ1.out.below hbr (Nat.le_refl _))
          have hx2 := Keep.mk (hX.out.below hbr (Nat.le_refl _))
          have hB2 := Keep.mk (held_on hbr HB1.out)
          clear hfit hbr hall hwid
          go_wp2_with fail
          refine (lines_any v rows wr hv2 HS.out (by omega)).mono ?_
          rintro e w3 ⟨l, rfl, hl, hb3⟩
          have hv3 := hv2.below hb3 (Nat.le_refl _)
          have hz3 := Keep.mk (hz2.out.below hb3 (Nat.le_refl _))
          have hx3 := Keep.mk (hx2.out.below hb3 (Nat.le_refl _))
          have hB3 := Keep.mk (held_on hb3 hB2.out)
          have hL3 := Strs.of_owns hl
          obtain ⟨al, cl, rfl⟩ := ownsRow_slice hl
          obtain ⟨us, hus, hvals⟩ := hv3.vals
          obtain ⟨i0, hi0, hz0, hz1, hz2'⟩ := info_parts Try.infoRow
          have hw0 : Below w3.heap.size w3 (w3.alloc (.cells #[] 28)) := (Below.refl _ _).alloc (Nat.le_refl _) _
          have h0 : (w3.alloc (.cells #[] 28)).ownsRow w3.heap.size 28 1 (.slice (some ⟨w3.heap.size, 0, none⟩) 0 0) 0 [] :=
            World.ownsRow_lit w3 #[] 0 (Nat.le_refl _) (by decide) rfl
          have hus' := hus.below hw0 (Nat.le_refl _)
          clear hl hb3 hv2 hv3 hus
          go_wp2_with (first | (at_builtin; refine wpList_append_slc (o := ⟨some 43, _, _, _, _, _⟩) rfl _ _ 22 rfl w3.heap.size 28 i0 (.slice none 0 0) 1 24 Try.underlying22 hi0 hz0 hz1 hz2' rfl (by decide) (.slice (some ⟨w3.heap.size, 0, none⟩) 0 0) 0 [] rfl h0 v rows.length us rfl hus' hvals.oneCell (by unfold maxLen; omega) (by omega) (by simp) ?_; intro v4 w4 hown4 hg4 _; rw [Nat.zero_add, List.nil_append] at hown4; have hb4 := below_append hw0 (by simp) h0 (Nat.le_refl _) hg4; have hl4 := hb4.size) | (at_builtin; refine wpList_append_own (o := ⟨some 46, _, _, _, _, _⟩) _ rfl _ _ 22 rfl w3.heap.size 28 i0 (.slice none 0 0) 1 24 Try.underlying22 hi0 hz0 hz1 hz2' rfl (by decide) v4 _ _ rfl (hown4.alloc _) ⟨w4.heap.size, 0, none⟩ 1 1 [.slice az row.length cz] rfl rfl (cell_one_new _ _ _) (by simp [Value.oneCell']) (by unfold maxLen; omega) (by omega) (by simp; omega) ?_; intro v5 w5 hown5 hg5 _))
          have hb5 := below_append (hb4.alloc hl4 _) (by simp; omega) (hown4.alloc _) (Nat.le_refl _) hg5
          have hw35 : Below w3.heap.size w3 w5 := hb5
          have hvals5 := (hvals.below hw35 (Nat.le_refl _)).append (RowVals.one (hz3.out.below hw35 (Nat.le_refl _)))
          have hT5 : TRows w5 v5 (rows ++ [row]) := TRows.of_owns (by rw [List.length_append]; exact hown5) hvals5
          have hx5 := Keep.mk (hx3.out.below hw35 (Nat.le_refl _))
          have hL5 := Keep.mk (hL3.below hw35 (Nat.le_refl _))
          have hB5 := Keep.mk (held_on hw35 hB3.out)
          clear hown4 hown5 hg4 hg5 hb4 hb5 hl4 hus' h0 hw0 hi0 hz0 hz1 hz2' hvals hvals5 hw35 hL3
          refine (lines_any v5 (rows ++ [row]) w5 hT5 hsmall.out (by simp; omega)).mono ?_
          rintro e w6 ⟨m, rfl, hm, hb6⟩
          rw [List.length_append, List.length_singleton] at hm
          obtain ⟨g, cm, rfl⟩ := ownsRow_succ hm
          rw [hsnoc.out] at hm
          have hx6 := Keep.mk (hx5.out.below hb6 (Nat.le_refl _))
          have hL6 := Keep.mk (hL5.out.below hb6 (Nat.le_refl _))
          have hB6 := Keep.mk (held_on hb6 hB5.out)
          obtain ⟨LS, hLS⟩ : ∃ LS, LS = mkS (lineL ws row) := ⟨_, rfl⟩
          have hLz : LS.size = posL ws ws.length := by rw [hLS, size_mkS, line_length hfits.out]
          rw [← hLS] at hm
          obtain ⟨am, cm', em, m1, m2, m3⟩ := (Strs.of_owns hm).parts
          rw [List.length_append, linesS_length, List.length_singleton] at em m1
          simp only [Value.slice.injEq, true_and] at em
          obtain ⟨rfl, rfl⟩ := em
          have hM6 : Keep (Strs w6 (.slice (some ⟨g, 0, none⟩) rows.length cm) (linesS rows)) := ⟨by
            refine ⟨_, cm, by rw [linesS_length], by rw [linesS_length]; omega, m2, ?_⟩
            by_cases h0 : linesS rows = []
            · exact .inl h0
            · have hpos := List.length_pos_iff.2 h0
              obtain ⟨b0, o0, e0, hlt0, _⟩ := m3 0 ((linesS rows)[0]'hpos) (by rw [List.getElem?_append_left hpos]; exact List.getElem?_eq_getElem hpos)
              refine .inr ⟨b0, o0, e0, hlt0, fun i s hi => ?_⟩
              have hil := (List.getElem?_eq_some_iff.1 hi).1
              obtain ⟨b1, o1, e1, _, c1⟩ := m3 i s (by rw [List.getElem?_append_left hil]; exact hi)
              rw [e0] at e1
              simp only [Option.some.injEq, Addr.mk.injEq] at e1
              obtain ⟨rfl, rfl, _⟩ := e1
              exact c1⟩
          obtain ⟨b0, o0, e0, hlt0, hc0⟩ := m3 rows.length LS (by rw [List.getElem?_append_right (by rw [linesS_length]; omega), linesS_length, Nat.sub_self]; rfl)
          simp only [Option.some.injEq, Addr.mk.injEq] at e0
          obtain ⟨rfl, rfl, _⟩ := e0
          have hS := Keep.mk (fun wx hx hy => same51_any (.slice (some ⟨g, 0, none⟩) rows.length cm) (.slice al rows.length cl) (linesS rows) (linesS rows) wx hx hy)
          rw [decide_eq_true rfl] at hS
          have hlen := Keep.mk (fun wx (hx : Nums wx (.slice ax ws.length cx) ws) => length51_any _ _ wx hx HSL.out)
          unfold maxLen at m2
          have hple := posL_le HSL.out ws.length
          clear hm hb6 hT5 hLS m3 hsnoc hfits
          go_wp2_with fail
          obtain ⟨α, f, hne, hF, hcl⟩ := class_of (fun w' => Below w6.heap.size w6 w') w6 (Below.refl _ _)
          have hcell := fun x => ((hF x).cell (p := ⟨g, 0 + rows.length, none⟩) hlt0).trans hc0
          simp only [Nat.zero_add] at hcell
          have HF := Keep.mk hF
          have i1 : (0 : Int) ≤ ((rows.length : Nat) : Int) := by omega
          have i2 : ((rows.length : Nat) : Int) < ((rows.length : Nat) : Int) + 1 := by omega
          have i3 : ((rows.length : Nat) : Int) ≤ ((cm : Nat) : Int) := by omega
          have hLz' : ((LS.size : Int) == ((posL ws ws.length : Nat) : Int)) = true := by rw [hLz]; simp
          clear hF hLz hc0
          generalize posL ws ws.length = P at *
          refine wp_region_class f (by kernel_rfl) (by kernel_rfl) (hcl _ (Below.refl _ _).drew) ?_
          repeat (go_big_quiet_step ((first
            | (go_at_call 14; refine (hS.out _ (hM6.out.below (HF.out _) (Nat.le_refl _)) (hL6.out.below (HF.out _) (Nat.le_refl _))).mono ?_; rintro e w7 ⟨rfl, hb7⟩; exact ⟨rfl, hcl _ ((HF.out _).trans (hb7.mono (HF.out _).size))⟩)
            | (go_at_call 17; refine (hlen.out _ (hx6.out.below (HF.out _) (Nat.le_refl _))).mono ?_; rintro e w7 ⟨rfl, rfl⟩; exact ⟨rfl, _, rfl⟩)
            | (go_at_call 11; refine (awake51_any _).mono ?_; rintro e w7 ⟨rfl, hb7⟩; exact ⟨rfl, hcl _ ((HF.out _).trans (hb7.mono (HF.out _).size))⟩))))
          refine wpQuiet_nil ?_
          rintro _ ⟨y, rfl⟩
          have hy := HF.out y
          generalize f y = w8 at *
          go_wp2
          go_ret
          exact ⟨rfl, held_on hy hB6.out⟩
theorem TableAppends_walk : LawWalk 6 Try.f6 := by
  intro H enc W base args ds ps hval hA hsz
  rw [Try.params6] at hA hval hsz
  obtain ⟨v0, vs0, d0, ds0, p0, q0, hargs, rfl, rfl, h0, r0⟩ := trodAll_cons hA
  obtain ⟨v1, vs1, d1, ds1, p1, q1, rfl, rfl, rfl, h1, r1⟩ := trodAll_cons r0
  obtain ⟨rfl, rfl, rfl⟩ := trodAll_nil r1
  obtain rfl : args = #[v0, v1] := by cases args; simp_all
  obtain ⟨rows, g1, g2, g3, g4⟩ := open_rows (hval 0 22 v0 rfl rfl) h0 (sized_each hsz (j := 0) rfl rfl)
  obtain ⟨row, k1, k2, _⟩ := open_strs0 (hval 1 28 v1 rfl rfl) h1 (sized_each hsz (j := 1) rfl rfl)
  exact tableAppends_any v0 v1 rows row W ⟨g1, g2, g3, g4⟩ k1 (fun c hc => by have := k2 c hc; unfold reachBytes at this; omega)
end Go.Proofs.Ytofhokggcpeldaa
namespace Go.Proofs.Ytofhokggcpeldaa
open Go.ChangeShapes Go.WideShapes Go.ChangeAt Go.RowKit
set_option maxRecDepth 100000 in
theorem TableAppends_lifted (os : Os) (started : os.Started) (H : Type) (enc : TypeId × Value → H) :
    ReturnsInHanded {} Try.checked os 6 .any (Rows.tableAppendsSpec.pre6 enc Try.prog Try.f6 Rows.tableAppendsRow.domain false) (Rows.tableAppendsSpec.post enc Try.prog Try.f6 false true false false) := by
  refine returnsInHanded_of_change_sized (C := Try.checked) own started (by kernel_rfl) Try.func6
    (ChangeSpec.witness6 (enc := enc) (C := Try.checked) false ⟨#[], #[.slice none 0 0, .slice none 0 0], []⟩ 8 (by kernel_rfl) (by kernel_rfl) (by kernel_rfl) (by kernel_rfl)) ?_
  exact law_contract (by kernel_rfl) (by kernel_rfl) ⟨rfl, fun H ds h => by rw [Try.params6] at h; match ds, h with | [d0, d1], _ => rfl⟩ TableAppends_walk
theorem TableAppends_over : Rows.tableAppendsRow.holds Try.pinned (OpenSpec.ofChange Rows.tableAppendsSpec) :=
  OpenClaim.holds_of_wide 6 Try.f6 rfl rfl rfl rfl rfl rfl rfl ⟨rfl, rfl, rfl, rfl, rfl⟩ rfl rfl rfl rfl rfl (by kernel_rfl) Try.func6 (by kernel_rfl)
    (of_decide_eq_true (by kernel_rfl)) (by unfold Func.isWrapper; first | (rw [if_pos (by decide +kernel)]; kernel_rfl) | (rw [if_neg (by decide +kernel)]; exact ⟨rfl, rfl⟩))
    (fun os started H enc _ => TableAppends_lifted os started H enc)
theorem TableAppends_proved : Rows.TableAppendsSaid := TableAppends_over
end Go.Proofs.Ytofhokggcpeldaa
