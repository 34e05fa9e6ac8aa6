/- The law TablePadding: adding empty cells at the end of a row, up to the number of columns, changes nothing. No condition. -/
import Derived.Test.YtofhokggcpeldaaTabPad
namespace Go.Proofs.Ytofhokggcpeldaa
open Go.RowKit Go.Shelf Go.Proofs.Ytofhokggcpeldaa.Table Go.ChangeShapes Go.WideShapes Go.ChangeAt

set_option maxRecDepth 100000 in
set_option maxHeartbeats 4000000 in
theorem tablePadding_any (v : Value) (rows : List Row) (w : World) (hv : RowsOk w v rows) :
    Calls Try.prog 7 #[v] w fun e w' => e = .returned (.bool true) ∧ Below w.heap.size w w' := by
  obtain ⟨hv, hr, hc, _⟩ := hv
  go_enter Try.func7, Try.ntmps7
  go_wp2_with fail
  refine (great51_any v rows w hv hc).mono ?_
  rintro e w' ⟨⟨g, rfl, hg⟩, rfl⟩
  clear hc
  cases g with
  | true =>
    clear hg
    go_wp2_with fail
    refine (awake51_any _).mono ?_
    rintro e w2 ⟨rfl, hb2⟩
    go_wp2
    go_ret
    exact ⟨rfl, hb2⟩
  | false =>
  obtain ⟨hn, hs⟩ := hg rfl
  have HS := Keep.mk hs
  have hw8 := (small_widths hs).1
  clear hg hs
  go_wp2_with fail
  refine (widths_any v rows w hv hr).mono ?_
  rintro e w1 ⟨x, rfl, hx, hb1⟩
  obtain ⟨ax, cx, rfl⟩ := ownsRow_slice hx
  have hv1 := hv.below hb1 (Nat.le_refl _)
  have HV1 := Keep.mk hv1
  have HB1 := Keep.mk hb1
  obtain ⟨a, c, rfl, h1, h2, h3⟩ := hv1
  have H3 := Keep.mk h3
  have HROW : Keep (∀ (i : Nat) r, rows[i]? = some r → r.length ≤ (widths rows).length) := ⟨fun i r hi => (widths_row (List.mem_of_getElem? hi)).1⟩
  have HPAD : Keep (∀ w v, TRows w v (rows.map (padR (widths rows).length)) → Calls Try.prog 15 #[v] w fun e w' => ∃ x, e = .returned x ∧ w'.ownsRow w.heap.size 9 1 x rows.length (strCells (linesS rows)) ∧ Below w.heap.size w w') := ⟨fun w v h => by
    have := lines_any v _ w h (small_pad HS.out) (by simp; omega)
    rw [linesS_pad, List.length_map] at this
    exact this⟩
  clear hx hr hv hb1 h3
  generalize (widths rows).length = N at *
  unfold maxLen at h2
  have h0 : (w1.alloc (.cells #[] 28)).ownsRow w1.heap.size 28 1 (.slice (some ⟨w1.heap.size, 0, none⟩) 0 0) 0 [] :=
    World.ownsRow_lit w1 #[] 0 (Nat.le_refl _) (by decide) rfl
  have hw0 : Below w1.heap.size w1 (w1.alloc (.cells #[] 28)) := (Below.refl _ _).alloc (Nat.le_refl _) _
  go_wp2
  go_loopw [4, 16] (fun y i wr => ∃ k us, k ≤ rows.length ∧ i = .int .i64 (k : Nat) ∧ wr.ownsRow w1.heap.size 28 1 y k us ∧ RowOwns wr w1.heap.size us ((rows.take k).map (padR N)) ∧ Below w1.heap.size w1 wr) (fun _ i _ => rows.length - (intOf i).toNat)
  case atStart => exact ⟨0, [], Nat.zero_le _, rfl, h0, ⟨rfl, fun i r h => by simp at h⟩, hw0⟩
  case round =>
    obtain ⟨k, us, hk, rfl, hown, hus, hbr⟩ := hrel
    obtain ⟨ay, cy, rfl⟩ := ownsRow_slice hown
    by_cases hlt : k < rows.length
    · obtain ⟨b, o, u, rfl, hb, hcu, hsu⟩ := H3.out k rows[k] (List.getElem?_eq_getElem hlt)
      have hnext : rows.take (k + 1) = rows.take k ++ [rows[k]] := by rw [List.take_add_one, List.getElem?_eq_getElem hlt]; rfl
      have hrl := HROW.out k rows[k] (List.getElem?_eq_getElem hlt)
      generalize rows[k] = r at *
      have hcu' := (hbr.cell (p := ⟨b, o + k, none⟩) hb).trans hcu
      have hsu' := Keep.mk (hsu.below hbr (Nat.le_refl _))
      have hblt : b < wr.heap.size := Nat.lt_of_lt_of_le hb hbr.size
      have hcu2 : (wr.alloc (.cells #[] 9)).cell? ⟨b, o + k, none⟩ = some u := (World.cell?_alloc_lt wr _ _ hblt).trans hcu'
      obtain ⟨i0, hi0, hz0, hz1, hz2'⟩ := info_parts Try.infoStr
      have hw2 : Below wr.heap.size wr (wr.alloc (.cells #[] 9)) := (Below.refl _ _).alloc (Nat.le_refl _) _
      have h20 : (wr.alloc (.cells #[] 9)).ownsRow wr.heap.size 9 1 (.slice (some ⟨wr.heap.size, 0, none⟩) 0 0) 0 [] :=
        World.ownsRow_lit wr #[] 0 (Nat.le_refl _) (by decide) rfl
      have hsl := (hsu'.out.below hw2 (Nat.le_refl _)).slc
      obtain ⟨au, cu, rfl, _⟩ := hsu
      clear hcu
      go_wp2_with (first | (at_builtin; refine wpList_append_slc (o := ⟨some 24, _, _, _, _, _⟩) rfl _ _ 28 rfl wr.heap.size 9 i0 (.string ⟨#[]⟩) 1 16 Try.underlying28 hi0 hz0 hz1 hz2' rfl (by decide) (.slice (some ⟨wr.heap.size, 0, none⟩) 0 0) 0 [] rfl h20 (.slice au r.length cu) r.length (strCells r) rfl hsl (by simp [strCells, Value.oneCell']) (by unfold maxLen; omega) (by omega) (by simp) ?_; intro v4 w4 hown4 hg4 _; rw [Nat.zero_add, List.nil_append] at hown4; have hb4 := below_append hw2 (by simp) h20 (Nat.le_refl _) hg4))
      have hw8' : N ≤ 8 := hw8
      have Hus := Keep.mk hus
      have Hown := Keep.mk hown
      have hus9 := hus.1
      have hwr := hb4.size
      clear hg4 hsl h20 hw2 hcu2 hcu' hsu' hown hus
      have HBR := Keep.mk hbr
      have HB4 := Keep.mk hb4
      generalize wr = wo at *
      go_loopw [6] (fun t wi => ∃ n, r.length + n ≤ N ∧ wi.ownsRow wo.heap.size 9 1 t (r.length + n) (strCells (r ++ List.replicate n ⟨#[]⟩)) ∧ Below wo.heap.size wo wi) (fun t _ => N - lenV t)
      case atStart => exact ⟨0, hrl, by rw [List.replicate_zero, List.append_nil]; exact hown4, hb4⟩
      case round =>
        obtain ⟨n, hn1, hrow, hbi⟩ := hrel
        obtain ⟨at', ct', rfl⟩ := ownsRow_slice hrow
        by_cases hlt2 : r.length + n < N
        · have hsn := Keep.mk (pad_snoc r n)
          have hbs := hbi.size
          go_wp2_with (first | (at_builtin; refine wpList_append_own (o := ⟨some 32, _, _, _, _, _⟩) _ rfl _ _ 28 rfl wo.heap.size 9 i0 (.string ⟨#[]⟩) 1 16 Try.underlying28 hi0 hz0 hz1 hz2' rfl (by decide) (.slice at' (r.length + n) ct') _ _ rfl (hrow.alloc _) ⟨wr.heap.size, 0, none⟩ 1 1 [.string ⟨#[]⟩] rfl rfl (cell_one_new _ _ _) (by simp [Value.oneCell']) (by unfold maxLen; omega) (by omega) (by simp; omega) ?_; intro v5 w5 hown5 hg5 _; have hb5 := below_append (hbi.alloc hbs _) (by simp; omega) (hrow.alloc _) (Nat.le_refl _) hg5; rw [← hsn.out] at hown5; obtain ⟨at5, ct5, rfl⟩ := ownsRow_slice hown5; have HO5 := Keep.mk hown5; clear hown5 hg5 hrow))
          go_roundw
          case rel => exact ⟨n + 1, by omega, HO5.out, hb5⟩
          case measure => simp [lenV]; omega
        · have hN : r.length + n = N := by omega
          have hpr : r ++ List.replicate n ⟨#[]⟩ = padR N r := by unfold padR; rw [show N - r.length = n by omega]
          rw [hpr, hN] at hrow
          rw [hN]
          have hbw := held_on hbi HBR.out
          have hbs := hbw.size
          have hownR := ownsRow_below Hown.out hbi (Nat.le_refl _)
          have husR := (Hus.out.below hbi (Nat.le_refl _)).snoc (r := padR N r) (by rw [padR_length hrl]; exact ownsRow_lower hrow HBR.out.size)
          obtain ⟨j0, hj0, hy0, hy1, hy2⟩ := info_parts Try.infoRow
          have husA := husR.below (B := wr.heap.size) ((Below.refl _ _).alloc (Nat.le_refl _) (.cells #[.slice at' N ct'] 28)) (Nat.le_refl _)
          have hmap : List.map (padR N) (List.take k rows) ++ [padR N r] = List.map (padR N) (rows.take (k + 1)) := by rw [hnext]; simp
          rw [hmap] at husA
          have HUA := Keep.mk husA
          clear hpr husR hmap hnext husA hrow hbi
          go_wp2_with (first | (at_builtin; refine wpList_append_own (o := ⟨some 36, _, _, _, _, _⟩) _ rfl _ _ 22 rfl w1.heap.size 28 j0 (.slice none 0 0) 1 24 Try.underlying22 hj0 hy0 hy1 hy2 rfl (by decide) (.slice ay k cy) k us rfl (hownR.alloc _) ⟨wr.heap.size, 0, none⟩ 1 1 [.slice at' N ct'] rfl rfl (cell_one_new _ _ _) (by simp [Value.oneCell']) (by unfold maxLen; omega) (by omega) (by simp; omega) ?_; intro v6 w6 hown6 hg6 _; have hb6 := below_append (hbw.alloc hbs _) (by simp; omega) (hownR.alloc _) (Nat.le_refl _) hg6; have HU6 := Keep.mk (HUA.out.kept (hownR.alloc _) hg6); have HO6 := Keep.mk hown6; clear hown6 hg6))
          go_roundw
          case rel => exact ⟨k + 1, us ++ [.slice at' N ct'], by omega, by go_num, HO6.out, HU6.out, hb6⟩
          case measure => simp [intOf]; omega
    · obtain rfl : k = rows.length := by omega
      rw [List.take_length] at hus
      have hT : TRows wr (.slice ay rows.length cy) (rows.map (padR N)) := TRows.of_owns (by rw [List.length_map]; exact hown) hus.vals
      have hv2 := HV1.out.below hbr (Nat.le_refl _)
      have hB2 := Keep.mk (held_on hbr HB1.out)
      have HT := Keep.mk hT
      clear hT hus hown hbr HV1 HB1 HROW H3 h0 hw0
      go_wp2_with fail
      refine (lines_any _ rows wr hv2 HS.out (by omega)).mono ?_
      rintro e w3 ⟨l, rfl, hl, hb3⟩
      have hT3 := HT.out.below hb3 (Nat.le_refl _)
      have hB3 := Keep.mk (held_on hb3 hB2.out)
      have hL3 := Keep.mk (Strs.of_owns hl)
      clear hl hb3 hv2 hB2 HT
      go_wp2_with fail
      refine (HPAD.out w3 _ hT3).mono ?_
      rintro e w4 ⟨m, rfl, hm, hb4⟩
      have hB4 := Keep.mk (held_on hb4 hB3.out)
      have hL4 := hL3.out.below hb4 (Nat.le_refl _)
      have hM4 := Strs.of_owns hm
      clear hm hb4 hT3 hB3 hL3 HPAD
      go_wp2_with fail
      refine (same51_any l m (linesS rows) (linesS rows) w4 hL4 hM4).mono ?_
      rw [decide_eq_true rfl]
      rintro e w5 ⟨rfl, hb5⟩
      have hB5 := Keep.mk (held_on hb5 hB4.out)
      clear hL4 hM4 hb5 hB4
      go_wp2_with fail
      refine (awake51_any _).mono ?_
      rintro e w6 ⟨rfl, hb6⟩
      go_wp2
      go_ret
      exact ⟨rfl, held_on hb6 hB5.out⟩
theorem TablePadding_walk : LawWalk 7 Try.f7 := by
  intro H enc W base args ds ps hval hA hsz
  rw [Try.params7] at hA hval hsz
  obtain ⟨v0, vs0, d0, ds0, p0, q0, hargs, rfl, rfl, h0, r0⟩ := trodAll_cons hA
  obtain ⟨rfl, rfl, rfl⟩ := trodAll_nil r0
  obtain rfl : args = #[v0] := by cases args; simp_all
  obtain ⟨rows, g1, g2, g3, g4⟩ := open_rows (hval 0 22 v0 rfl rfl) h0 (sized_each hsz (j := 0) rfl rfl)
  exact tablePadding_any v0 rows W ⟨g1, g2, g3, g4⟩
end Go.Proofs.Ytofhokggcpeldaa
namespace Go.Proofs.Ytofhokggcpeldaa
open Go.ChangeShapes Go.WideShapes Go.ChangeAt Go.RowKit
set_option maxRecDepth 100000 in
theorem TablePadding_lifted (os : Os) (started : os.Started) (H : Type) (enc : TypeId × Value → H) :
    ReturnsInHanded {} Try.checked os 7 .any (Rows.tablePaddingSpec.pre6 enc Try.prog Try.f7 Rows.tablePaddingRow.domain false) (Rows.tablePaddingSpec.post enc Try.prog Try.f7 false true false false) := by
  refine returnsInHanded_of_change_sized (C := Try.checked) own started (by kernel_rfl) Try.func7
    (ChangeSpec.witness6 (enc := enc) (C := Try.checked) false ⟨#[], #[.slice none 0 0], []⟩ 8 (by kernel_rfl) (by kernel_rfl) (by kernel_rfl) (by kernel_rfl)) ?_
  exact law_contract (by kernel_rfl) (by kernel_rfl) ⟨rfl, fun H ds h => by rw [Try.params7] at h; match ds, h with | [d0], _ => rfl⟩ TablePadding_walk
theorem TablePadding_over : Rows.tablePaddingRow.holds Try.pinned (OpenSpec.ofChange Rows.tablePaddingSpec) :=
  OpenClaim.holds_of_wide 7 Try.f7 rfl rfl rfl rfl rfl rfl rfl ⟨rfl, rfl, rfl, rfl, rfl⟩ rfl rfl rfl rfl rfl (by kernel_rfl) Try.func7 (by kernel_rfl)
    (of_decide_eq_true (by kernel_rfl)) (by unfold Func.isWrapper; first | (rw [if_pos (by decide +kernel)]; kernel_rfl) | (rw [if_neg (by decide +kernel)]; exact ⟨rfl, rfl⟩))
    (fun os started H enc _ => TablePadding_lifted os started H enc)
theorem TablePadding_proved : Rows.TablePaddingSaid := TablePadding_over
end Go.Proofs.Ytofhokggcpeldaa
