/- table.Lines returns the lines of a table in a new slice. Condition: small rows. -/
import Derived.Test.YtofhokggcpeldaaTabRef2
import Derived.Test.YtofhokggcpeldaaBuilderByte
import Derived.Test.YtofhokggcpeldaaRepeat
namespace Go.Proofs.Ytofhokggcpeldaa
open Go.RowKit Go.Shelf Go.Proofs.Ytofhokggcpeldaa.Table

theorem repeatL_one (c : UInt8) (k : Nat) : Lib.repeatL [c] k = List.replicate k c := by
  induction k with
  | zero => rfl
  | succ k ih => rw [Lib.repeatL, ih, List.replicate_succ]; rfl
/-- What is owned stands behind whatever turns nothing that lay. -/
theorem ownsRow_below {w w' : World} {B base : Nat} {e : TypeId} {size n : Nat} {v : Value} {xs : List Value} (h : w.ownsRow base e size v n xs) (hb : Below B w w') (hB : w.heap.size ≤ B) : w'.ownsRow base e size v n xs := by
  obtain ⟨h1, h2 | ⟨g, cap, cur, hv, hg, hh, r⟩⟩ := h
  · exact ⟨h1, .inl h2⟩
  · exact ⟨h1, .inr ⟨g, cap, cur, hv, hg, (hb.block g (Nat.lt_of_lt_of_le (Array.getElem?_eq_some_iff.1 hh).1 hB)).trans hh, r⟩⟩

set_option maxHeartbeats 2000000 in
theorem lines_any (v : Value) (rows : List Row) (w : World) (hv : TRows w v rows) (hr : ∀ r ∈ rows, Small r) (hn : rows.length ≤ 20) :
    Calls Try.prog 15 #[v] w fun e w' =>
      ∃ x, e = .returned x ∧ w'.ownsRow w.heap.size 9 1 x rows.length (strCells (linesS rows)) ∧ Below w.heap.size w w' := by
  have hslim := small_widths hr
  have HR := Keep.mk hr
  obtain ⟨i0, hi, hz0, hz1, hz2⟩ := info_parts Try.infoStr
  go_enter Try.func15, Try.ntmps15
  go_wp2_with fail
  refine (widths_any v rows w hv (fun r h => by have := (hr r h).1; omega)).mono ?_
  rintro e w1 ⟨x, rfl, hx, hb1⟩
  have hv1 := hv.below hb1 (Nat.le_refl _)
  obtain ⟨ax, cx, rfl⟩ := ownsRow_slice hx
  obtain ⟨ax', cx', hxe, hx1, hx2, hx3⟩ := Nums.of_owns hx
  simp only [Value.slice.injEq, true_and] at hxe
  obtain ⟨rfl, rfl⟩ := hxe
  have HX3 := Keep.mk hx3
  have HB1 := Keep.mk hb1
  obtain ⟨a, c, rfl, h1, h2, h3⟩ := hv1
  have H3 := Keep.mk h3
  have HSL := Keep.mk hslim
  have hwb := hb1.size
  have hw8 : (widths rows).length ≤ 8 := hslim.1
  unfold maxLen at h2 hx2
  clear h3 hr hv hx hb1 hslim hx3
  obtain ⟨ws, hws⟩ : ∃ ws, ws = widths rows := ⟨_, rfl⟩
  have HWS := Keep.mk hws
  rw [← hws] at HX3 hx1 hw8 HSL ⊢
  clear hws
  go_wp2
  go_loopw [4, 15] (fun y i wr => ∃ m : Nat, m ≤ rows.length ∧ i = .int .i64 m ∧ wr.ownsRow w1.heap.size 9 1 y m (strCells ((linesS rows).take m)) ∧ Below w1.heap.size w1 wr) (fun _ i _ => rows.length - (intOf i).toNat)
  case atStart => exact ⟨0, Nat.zero_le _, rfl, World.ownsRow_nil _ _ _ _, Below.refl _ _⟩
  case round =>
    obtain ⟨m, hm, rfl, hrow, hbr⟩ := hrel
    by_cases hlt : m < rows.length
    · obtain ⟨r, hrr⟩ : ∃ r, rows[m]? = some r := ⟨_, List.getElem?_eq_getElem hlt⟩
      obtain ⟨b, o, u, rfl, hb, hcu, hS⟩ := H3.out m r hrr
      have hcu' := (hbr.cell (p := ⟨b, o + m, none⟩) hb).trans hcu
      have hmem : r ∈ rows := List.mem_of_getElem? hrr
      obtain ⟨a3, c3, rfl, g1, g2, g3⟩ := hS.parts
      have G3 := Keep.mk g3
      have HM := Keep.mk (HR.out r hmem)
      have HF := Keep.mk (fits_small hmem)
      have hst := Keep.mk (linesS_take hrr)
      rw [← HWS.out] at HF hst
      have hbs := hbr.size
      obtain ⟨ay, cy, rfl⟩ := ownsRow_slice hrow
      unfold maxLen at g2
      clear hcu hS hrr hmem g3
      have hfr := builder_fresh wr
      have HROW := Keep.mk hrow
      have HBR := Keep.mk hbr
      go_wp2_with fail
      refine (writeByte_any wr.heap.size wr.heap.size [] 124 124 _ hfr (by simp) (by simp) rfl).mono ?_
      rintro e w2 ⟨rfl, hH2, hb2, _⟩
      have hB2 : Below wr.heap.size wr w2 := ((Below.refl _ _).alloc (Nat.le_refl _) _).trans hb2
      have hz2' : wr.heap.size < w2.heap.size := by have := hb2.size; simp at this; omega
      rw [List.nil_append] at hH2
      obtain ⟨wo, hwo⟩ : ∃ wo : World, wo = wr := ⟨_, rfl⟩
      rw [← hwo] at hH2 hB2 hz2' HROW HBR hbs ⊢
      clear hcu' hfr hb2 hrow hbr hwo
      go_wp2
      go_loopw [22] (fun i wi => ∃ k : Nat, k ≤ ws.length ∧ i = .int .i64 k ∧ Holds wo.heap.size wo.heap.size (lineTo ws r k) wi ∧ Below wo.heap.size wo wi ∧ wo.heap.size < wi.heap.size) (fun i _ => ws.length - (intOf i).toNat)
      case atStart => exact ⟨0, Nat.zero_le _, rfl, hH2, hB2, hz2'⟩
      case round =>
        obtain ⟨k, hk, rfl, hH, hbi, hzi⟩ := hrel
        have hb1i : Below w1.heap.size w1 wr := HBR.out.trans (hbi.mono hbs)
        have hlen : (lineTo ws r k).length ≤ 100000 := by
          have hp : ∀ k, posL ws k ≤ 1 + 33 * k := fun k => by
            induction k with
            | zero => exact Nat.le_refl _
            | succ k ih => have := HSL.out.2 k; rw [posL]; omega
          have := hp k
          rw [lineTo_length (fun j => by
            by_cases hj : j < ws.length
            · exact .inl (HF.out j hj)
            · exact .inr (by omega)) k hk]
          omega
        by_cases hltk : k < ws.length
        · have hwk := HSL.out.2 k
          have hck := HF.out k hltk
          have hc30 := small_cell HM.out k
          obtain ⟨b2, o2, rfl, hb2, hcw⟩ := HX3.out k (ws.getD k 0) (by rw [List.getD_eq_getElem?_getD, List.getElem?_eq_getElem hltk]; rfl)
          have hcw' := (hb1i.cell (p := ⟨b2, o2 + k, none⟩) hb2).trans hcw
          obtain ⟨c, hc⟩ : ∃ c, c = cellAt r k := ⟨_, rfl⟩
          obtain ⟨y, hy⟩ : ∃ y, y = ws.getD k 0 := ⟨_, rfl⟩
          have hpad : Keep (lineTo ws r (k + 1) = lineTo ws r k ++ padL y c.data.toList) := ⟨by rw [hc, hy]; rfl⟩
          rw [← hc] at hck hc30
          rw [← hy] at hck hwk hcw'
          have hrep := Keep.mk (fun (wx : World) => repeat_any ⟨#[32]⟩ ((y : Int) - (c.size : Int)) wx (by omega) (by rw [show (⟨#[32]⟩ : ByteArray).size = 1 from rfl]; omega) (by omega))
          have hdl : (Lib.repeatL (⟨#[32]⟩ : ByteArray).data.toList ((y : Int) - (c.size : Int)).toNat) = List.replicate (y - c.size) 32 := by
            rw [show ((y : Int) - (c.size : Int)).toNat = y - c.size by omega]; exact repeatL_one 32 _
          rw [hdl] at hrep
          obtain ⟨d, hd⟩ : ∃ d, d = mkS (List.replicate (y - c.size) 32) := ⟨_, rfl⟩
          have hdz : d.size = y - c.size := by rw [hd, size_mkS]; simp
          obtain ⟨s1, e1⟩ : ∃ s1, s1 = (⟨#[32]⟩ : ByteArray) ++ c := ⟨_, rfl⟩
          obtain ⟨s2, e2⟩ : ∃ s2, s2 = s1 ++ d := ⟨_, rfl⟩
          obtain ⟨s3, e3⟩ : ∃ s3, s3 = s2 ++ ⟨#[32, 124]⟩ := ⟨_, rfl⟩
          rw [← hd] at hrep
          have z1 : s1.size = 1 + c.size := by rw [e1, ByteArray.size_append]; rfl
          have z2 : s2.size = s1.size + d.size := by rw [e2, ByteArray.size_append]
          have z3 : s3.size = s2.size + 2 := by rw [e3, ByteArray.size_append]; rfl
          have cat1 := fun (wx : World) => run_string_add_sum (P := Try.prog) wx ⟨#[32]⟩ c (by rw [show (⟨#[32]⟩ : ByteArray).size = 1 from rfl]; omega)
          have cat2 := fun (wx : World) => run_string_add_sum (P := Try.prog) wx s1 d (by omega)
          have cat3 := fun (wx : World) => run_string_add_sum (P := Try.prog) wx s2 ⟨#[32, 124]⟩ (by rw [show (⟨#[32, 124]⟩ : ByteArray).size = 2 from rfl]; omega)
          rw [← e1] at cat1
          rw [← e2] at cat2
          rw [← e3] at cat3
          have hS3 : Keep (s3.data.toList = padL y c.data.toList) := ⟨by
            rw [e3, e2, e1, hd, padL]
            simp [mkS]⟩
          have hz3 : s3.size ≤ 100000 := by omega
          have hcsz : (c.size : Int) ≤ (y : Int) := by omega
          clear e1 e2 e3 hd hy z1 z2 z3 hdz hcw hdl
          by_cases hkr : k < r.length
          · obtain ⟨b1, o1, rfl, hb1', hcc⟩ := G3.out k c (by rw [hc]; unfold cellAt; rw [List.getD_eq_getElem?_getD, List.getElem?_eq_getElem hkr]; rfl)
            have hcc' := (hb1i.cell (p := ⟨b1, o1 + k, none⟩) hb1').trans hcc
            clear hc hcc
            go_wp2_with fail
            refine (hrep.out _).mono ?_
            rintro e w4 ⟨rfl, hb4⟩
            have hH4 := hH.below hb4
            have hb4' := held_on hb4 hbi
            have hz4 := hb4.size
            clear hcc' hcw' hH hbi hb1i hb4
            go_wp2_with fail
            refine (writeString_any wo.heap.size wo.heap.size _ s3 w4 hH4 (by omega) (by omega)).mono ?_
            rintro e w5 ⟨rfl, hH5, hb5, _⟩
            rw [hS3.out, ← hpad.out] at hH5
            have hz5 := hb5.size
            have hb5' := hb4'.trans hb5
            go_wp2
            go_roundw
            case rel => exact ⟨k + 1, by omega, by go_num, hH5, hb5', by omega⟩
            case measure => simp [intOf]; omega
          · have hce : c = ⟨#[]⟩ := by rw [hc]; unfold cellAt; rw [List.getD_eq_getElem?_getD, List.getElem?_eq_none (by omega)]; rfl
            clear hc
            subst hce
            have e0 : (y : Int) - ((⟨#[]⟩ : ByteArray).size : Int) = (y : Int) := Int.sub_zero _
            rw [e0] at hrep
            clear e0
            go_wp2_with fail
            refine (hrep.out _).mono ?_
            rintro e w4 ⟨rfl, hb4⟩
            have hH4 := hH.below hb4
            have hb4' := held_on hb4 hbi
            have hz4 := hb4.size
            clear hcw' hH hbi hb1i hb4
            go_wp2_with fail
            refine (writeString_any wo.heap.size wo.heap.size _ s3 w4 hH4 (by omega) (by omega)).mono ?_
            rintro e w5 ⟨rfl, hH5, hb5, _⟩
            rw [hS3.out, ← hpad.out] at hH5
            have hz5 := hb5.size
            have hb5' := hb4'.trans hb5
            go_wp2
            go_roundw
            case rel => exact ⟨k + 1, by omega, by go_num, hH5, hb5', by omega⟩
            case measure => simp [intOf]; omega
        · have hkn : lineTo ws r k = lineL ws r := by rw [show k = ws.length by omega]; rfl
          rw [hkn] at hH
          clear hkn hlen
          go_wp2_with fail
          refine (Try.Builder_String_any wo.heap.size wo.heap.size _ wr hH (by omega)).mono ?_
          rintro e w7 ⟨rfl, hb7⟩
          have hbo7 : Below wo.heap.size wo w7 := hbi.trans hb7
          have hrow7 := ownsRow_below HROW.out hbo7 (Nat.le_refl _)
          have hb17 : Below w1.heap.size w1 w7 := HBR.out.trans (hbo7.mono hbs)
          have hs7 := hb17.size
          obtain ⟨t, ht⟩ : ∃ t, t = mkS (lineL ws r) := ⟨_, rfl⟩
          rw [show (⟨(lineL ws r).toArray⟩ : ByteArray) = mkS (lineL ws r) from rfl, ← ht]
          rw [← ht] at hst
          clear ht hb7 hbi hH hb1i
          go_wp2_with (at_builtin; refine wpList_append_own (o := ⟨some 49, _, _, _, _, _⟩) _ rfl _ _ 28 rfl w1.heap.size 9 i0 (.string ⟨#[]⟩) 1 16 Try.underlying28 hi hz0 hz1 hz2 rfl (by decide) (.slice ay m cy) _ _ rfl (hrow7.alloc _) ⟨w7.heap.size, 0, none⟩ 1 1 [.string t] rfl rfl (cell_one_new _ _ _) (by simp [Value.oneCell']) (by unfold maxLen; omega) (by omega) (by simp; omega) ?_; intro v3 w3 hown3 hgrow3 _; have hb3 := below_append (hb17.alloc hs7 _) (by simp; omega) (hrow7.alloc _) (Nat.le_refl _) hgrow3; rw [← strCells_snoc, ← hst.out] at hown3; have HO3 := Keep.mk hown3; clear hown3 hgrow3 hrow7)
          go_roundw
          case rel => exact ⟨m + 1, by omega, by go_num, HO3.out, hb3⟩
          case measure => simp [intOf]; omega
    · have hmn : m = rows.length := by omega
      have hall : (linesS rows).take m = linesS rows := List.take_of_length_le (by rw [linesS_length]; omega)
      rw [hall, hmn] at hrow
      have HROW := Keep.mk hrow
      clear hrow hall hmn
      go_wp2
      go_ret
      exact ⟨_, rfl, ownsRow_base HROW.out hwb, held_on hbr HB1.out⟩
end Go.Proofs.Ytofhokggcpeldaa
