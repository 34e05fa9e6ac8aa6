/- CheckerRemoval: a program stays valid without a function's last statement, or with a new variable. Condition: a program of bulk at most 1048576. -/
import Derived.Test.YtgimdbflpdmlmaaCheckerIndependent
import Derived.Test.YtgimdbflpdmlmaaCkRemMath
import Derived.Test.YtgimdbflpdmlmaaRepeat
namespace Go.Proofs.Ytgimdbflpdmlmaa
set_option maxRecDepth 100000
open Go.RowKit Go.Shelf Go.Proofs.Ytgimdbflpdmlmaa.Ck Go.ChangeShapes Go.WideShapes Go.ChangeAt

/-- The library's own variable holds some number. -/
def MaxAt (w : World) (m : Int) : Prop := w.cell? ⟨0, 0, none⟩ = some (.int .i64 m)
theorem maxAt_of {w : World} (h : w.ShapedOpen Try.prog) : ∃ m, MaxAt w m :=
  cell_of_shapedOpen_int (P := Try.prog) (g := 0) (t := 3) (zero := #[.int .i64 0]) h (of_decide_eq_true (by kernel_rfl)) (by kernel_rfl) rfl (by kernel_rfl) (by kernel_rfl) Try.underlying3
theorem MaxAt.below {w w' : World} {m : Int} (h : MaxAt w m) (hb : Below w.heap.size w w') : MaxAt w' m := (hb.cell (p := ⟨0, 0, none⟩) (cell_lt h)).trans h
theorem rep_q : mkS (Lib.repeatL (⟨#[113]⟩ : ByteArray).data.toList (24 : Int).toNat) = sQ := by decide +kernel
theorem repeat_q (w : World) : Calls Try.prog 25 #[.string ⟨#[113]⟩, .int .i64 24] w fun e w' => e = .returned (.string sQ) ∧ Below w.heap.size w w' := by
  have := repeat_any ⟨#[113]⟩ 24 w (by decide) (by decide) (by decide)
  rwa [rep_q] at this
theorem join_any {w : World} {v : Value} {l : List ByteArray} (h : Strs w v l) (hs : ∀ x ∈ l.map (·.data.toList), x.length ≤ 50) (hl : l.length ≤ 1000000) :
    Calls Try.prog 27 #[v, .string ⟨#[32]⟩] w fun e w' => e = .returned (.string (mkS (Lib.join (l.map (·.data.toList)) [32]))) ∧ Below w.heap.size w w' := by
  obtain ⟨a, cap, rfl, h1, h2, h3⟩ := h
  rcases h3 with rfl | ⟨b, o, rfl, hb, hc⟩
  · exact (Try.strings_Join_none a cap ⟨#[32]⟩ w).mono fun e w' ⟨he, hw⟩ => ⟨he, by rw [hw]; exact Below.refl _ _⟩
  · have hj := join_small hs
    rw [List.length_map] at hj
    exact Try.strings_Join b o cap l ⟨#[32]⟩ w hc hb (by omega) h1 (Nat.le_trans hj (by omega))
theorem wider_zero {p : Pr} (hp : programC p = .ok ()) (hn : scalarsN p ≤ 400) (hg : sQ ∉ p.vars) (ha : ∀ a ∈ p.arrays, a.1 ≠ sQ) (hf : ∀ f ∈ p.funcs, f.name ≠ sQ) (ho : ∀ f ∈ p.funcs, sQ ∉ f.params ++ f.locals) : (check ⟨p.vars ++ [sQ], p.arrays, p.funcs⟩).2 = 0 :=
  check_zero.2 (wider_valid hp isName_q (by
    intro h
    rcases List.mem_append.1 h with h | h
    · rcases List.mem_append.1 h with h | h
      · exact hg h
      · obtain ⟨a, h1, h2⟩ := List.mem_map.1 h
        exact ha a h1 h2
    · obtain ⟨f, h1, h2⟩ := List.mem_map.1 h
      exact hf f h1 h2) ho (by omega))
theorem funcs_pos {p : Pr} (hp : programC p = .ok ()) : 0 < p.funcs.length := by
  obtain ⟨_, _, _, _, _, hm, _⟩ := program_okay.1 hp
  unfold lastMain at hm
  cases h : p.funcs with
  | nil => rw [h] at hm; simp at hm
  | cons f l => simp
theorem held_on {w w1 w2 : World} (hb : Below w1.heap.size w1 w2) (h : Below w.heap.size w w1) : Below w.heap.size w w2 := h.trans (hb.mono h.size)
set_option maxHeartbeats 16000000 in
theorem checkerRemoval_any {w : World} {vs rs fs : Value} {p : Pr} (hp : PrAt w vs rs fs p) (hz : sizeP p ≤ 1000000000) (k : Nat) (hk8 : k ≤ 255) (m : Int) (hm : MaxAt w m) :
    Calls Try.prog 10 #[.agg #[vs, rs, fs], .int .u8 k] w fun e w' => e = .returned (.bool true) ∧ Below w.heap.size w w' := by
  have HP := Keep.mk hp
  have HMX := Keep.mk hm
  clear hm
  obtain ⟨h1, h2, h3⟩ := hp
  obtain ⟨a1, c1, rfl, k1, k2⟩ := h1.len
  obtain ⟨a2, c2, rfl, k3, k4⟩ := h2.len
  obtain ⟨a3, c3, rfl, k5, k6⟩ := h3.len
  unfold maxLen at k2 k4 k6
  have H3 := Keep.mk h3
  have HZ := Keep.mk hz
  have HGS : Keep (∀ g ∈ p.funcs, szS g.body ≤ 1000000000) := ⟨fun g hg => by
    have h2 := fsum_mem (g := fuSz) hg
    have h3 : fuSz g = 1 + g.name.size / 8 + g.params.length + g.locals.length + szS g.body + eighths (g.params ++ g.locals) := rfl
    have h4 : sizeP p = p.vars.length + p.arrays.length + eighths p.vars + eighths (p.arrays.map (·.1)) + (p.funcs.map fuSz).sum := rfl
    omega⟩
  have HFL : Keep (p.funcs.length ≤ sizeP p) := ⟨by
    have : p.funcs.length ≤ (p.funcs.map fuSz).sum := by
      generalize p.funcs = l
      induction l with
      | nil => simp
      | cons f l ih =>
        have e1 : fuSz f = 1 + f.name.size / 8 + f.params.length + f.locals.length + szS f.body + eighths (f.params ++ f.locals) := rfl
        simp only [List.map_cons, List.sum_cons, List.length_cons]
        omega
    unfold sizeP; omega⟩
  clear h1 h2 h3 hz
  obtain ⟨w0, hw0⟩ : ∃ w0, w0 = (w.alloc (.cells #[.slice a1 p.vars.length c1, .slice a2 p.arrays.length c2, .slice a3 p.funcs.length c3] 26)) := ⟨_, rfl⟩
  have hb0 : Below w.heap.size w w0 := by rw [hw0]; exact (Below.refl _ _).alloc (Nat.le_refl _) _
  have hX : w0.heap[w.heap.size]? = some (.cells #[.slice a1 p.vars.length c1, .slice a2 p.arrays.length c2, .slice a3 p.funcs.length c3] 26 (0, 0)) := by rw [hw0]; exact heap_alloc_new w _
  have HS : Keep (∀ w', Below w0.heap.size w0 w' → w'.cell? ⟨w.heap.size, 0, none⟩ = some (.slice a1 p.vars.length c1) ∧ w'.cell? ⟨w.heap.size, 1, none⟩ = some (.slice a2 p.arrays.length c2) ∧ w'.cell? ⟨w.heap.size, 2, none⟩ = some (.slice a3 p.funcs.length c3) ∧ w.heap.size < w'.heap.size) := ⟨fun w' hb => by
    have e := (hb.block _ (Array.getElem?_eq_some_iff.1 hX).1).trans hX
    exact ⟨by simp [World.cell?, e], by simp [World.cell?, e], by simp [World.cell?, e], (Array.getElem?_eq_some_iff.1 e).1⟩⟩
  have HB0 := Keep.mk hb0
  have HW0 := Keep.mk hw0
  have HPA : Keep (∀ w', Below w0.heap.size w0 w' → PrAt w' (.slice a1 p.vars.length c1) (.slice a2 p.arrays.length c2) (.slice a3 p.funcs.length c3) p) := ⟨fun w' hb => HP.out.below (hb0.trans (hb.mono hb0.size))⟩
  clear hX hb0 hw0 HP
  go_enter Try.func10, Try.ntmps10
  go_upto_region 1 with (fail)
  rw [← HW0.out]
  clear HW0
  go_wp2_with fail
  refine (alive_any _).mono ?_
  rintro _ w1 ⟨rfl, hb1⟩
  have HB1 := Keep.mk hb1
  clear hb1
  have HSz := Keep.mk (sizeP_any (HPA.out _ HB1.out) HZ.out)
  obtain ⟨p0, p1, p2, pl⟩ := HS.out _ HB1.out
  go_wp2_with fail
  refine HSz.out.mono ?_
  rintro _ w2 ⟨rfl, hb2⟩
  have HB2 := Keep.mk (HB1.out.trans (hb2.mono HB1.out.size))
  clear hb2 HB1 HSz p0 p1 p2 pl
  obtain ⟨p0, p1, p2, pl⟩ := HS.out _ HB2.out
  by_cases h4 : sizeP p ≤ 400
  · have hq : ¬ (400 : Int) < (sizeP p : Int) := by omega
    have HF := Keep.mk (fits_of_size h4)
    have HFQ := Keep.mk (fits_wider h4)
    have hfl : p.funcs.length ≤ 400 := by have := HFL.out; omega
    have hvl : p.vars.length ≤ 400 := by have : p.vars.length ≤ sizeP p := (by unfold sizeP; omega); omega
    have HN4 : Keep (scalarsN p ≤ 400) := ⟨Nat.le_trans scalarsN_size h4⟩
    clear h4 HFL
    generalize sizeP p = sp at *
    have HCk := Keep.mk (check_any (HPA.out _ HB2.out) HF.out)
    go_wp2_with fail
    refine HCk.out.mono ?_
    rintro _ w3 ⟨rfl, hb3⟩
    have HB3 := Keep.mk (HB2.out.trans (hb3.mono HB2.out.size))
    clear hb3 HB2 HCk p0 p1 p2 pl
    by_cases he : (check p).2 = 0
    · have HV := Keep.mk (check_zero.1 he)
      have hq2 : ((check p).2 != 0) = false := by simp [he]
      clear he
      generalize (check p).2 = ce at *
      generalize (check p).1 = cn at *
      obtain ⟨p0, p1, p2, pl⟩ := HS.out _ HB3.out
      go_upto_region 9 with (fail)
      obtain ⟨Q, hQ⟩ : ∃ Q, Q = w3.heap.size := ⟨_, rfl⟩
      obtain ⟨wq, hwq⟩ : ∃ wq, wq = (w3.alloc (.cells #[.slice a1 p.vars.length c1, .slice a2 p.arrays.length c2, .slice a3 p.funcs.length c3] 26)) := ⟨_, rfl⟩
      have hqh : wq.heap[Q]? = some (.cells #[.slice a1 p.vars.length c1, .slice a2 p.arrays.length c2, .slice a3 p.funcs.length c3] 26 (0, 0)) := by rw [hwq, hQ]; exact heap_alloc_new w3 _
      have hqs : wq.heap.size = Q + 1 := by rw [hwq, hQ, World.size_alloc]
      have hbq : Below w3.heap.size w3 wq := by rw [hwq]; exact (Below.refl _ _).alloc (Nat.le_refl _) _
      have HBq := Keep.mk (HB3.out.trans (hbq.mono HB3.out.size))
      have HWq := Keep.mk (HB0.out.trans (HBq.out.mono HB0.out.size))
      rw [← hwq, ← hQ]
      have hwQ : w.heap.size < Q := by rw [hQ]; exact pl
      have HW0Q : Keep (w0.heap.size ≤ Q) := ⟨by rw [hQ]; exact HB3.out.size⟩
      clear hwq hbq p0 p1 p2 pl hQ
      obtain ⟨i0, hi, hz0, hz1, hz2⟩ := info_parts Try.infoStrS
      obtain ⟨p0, p1, p2, pl⟩ := HS.out _ HBq.out
      have HQS := Keep.mk hqs
      have HQH := Keep.mk hqh
      have HA0 : Keep ((wq.alloc (.cells #[] 9)).ownsRow (Q + 1) 9 1 (.slice (some ⟨wq.heap.size, 0, none⟩) 0 0) 0 []) := ⟨World.ownsRow_made (base := Q + 1) (e := 9) (size := 1) wq #[] 0 (by omega) (by decide) rfl⟩
      have hb0 : Below wq.heap.size wq (wq.alloc (.cells #[] 9)) := (Below.refl _ _).alloc (Nat.le_refl _) _
      have HBA := Keep.mk hb0
      have y0 : (wq.alloc (.cells #[] 9)).cell? ⟨w.heap.size, 0, none⟩ = some (.slice a1 p.vars.length c1) := (hb0.cell (p := ⟨w.heap.size, 0, none⟩) (by show w.heap.size < _; omega)).trans p0
      have H1 := Keep.mk (HPA.out _ HBq.out).1
      have HS7 : Keep (∀ v7 w7, w7.ownsRow (Q + 1) 9 1 v7 (0 + p.vars.length) ([] ++ strCells p.vars) → (wq.alloc (.cells #[] 9)).grownBy w7 (Value.slice (some ⟨wq.heap.size, 0, none⟩) 0 0).ownBlock → OwnStrs (Q + 1) w7 v7 p.vars ∧ Below wq.heap.size wq w7) := ⟨fun v7 w7 ho hg => by
        rw [Nat.zero_add, List.nil_append] at ho
        exact ⟨ho, hb0.grown hg hb0.size (fun j hj => by cases hj; exact Nat.le_refl _)⟩⟩
      clear hb0 hqs hqh
      go_wp2_with (at_builtin; go_must ((refine wpList_append_slc rfl _ _ 22 rfl (Q + 1) 9 i0 (.string ⟨#[]⟩) 1 16 Try.underlying22 hi hz0 hz1 hz2 rfl (by decide) _ 0 [] rfl HA0.out _ p.vars.length (strCells p.vars) rfl (H1.out.slc.below HBA.out (Nat.le_refl _)) (strCells_one _) (by unfold maxLen; omega) (by omega) (by have := HQS.out; simp; omega) ?_); intro v7 w7 hown7 hg7 hv7; have H7 := Keep.mk (HS7.out _ _ hown7 hg7); clear hown7 hg7 hv7))
      refine (repeat_q _).mono ?_
      rintro _ w8 ⟨rfl, hb8⟩
      have HO8 := Keep.mk (show OwnStrs (Q + 1) w8 v7 p.vars from World.ownsRow.kept H7.out.1 (grown_none hb8) (by cases hq : v7.ownBlock <;> simp))
      have HB8 := Keep.mk (H7.out.2.trans (hb8.mono H7.out.2.size))
      have HS9 : Keep (∀ v9 w9, w9.ownsRow (Q + 1) 9 1 v9 (p.vars.length + 1) (strCells p.vars ++ [.string sQ]) → (w8.alloc (.cells #[.string sQ] 9)).grownBy w9 v7.ownBlock → OwnStrs (Q + 1) w9 v9 (p.vars ++ [sQ]) ∧ Below wq.heap.size wq w9 ∧
          w9.heap[Q]? = some (.cells #[.slice a1 p.vars.length c1, .slice a2 p.arrays.length c2, .slice a3 p.funcs.length c3] 26 (0, 0)) ∧ w9.cell? ⟨Q, 0, none⟩ = some (.slice a1 p.vars.length c1) ∧ w9.frozen? ⟨Q, 0, none⟩ = false ∧ Q < w9.heap.size) := ⟨fun v9 w9 ho hg => by
        have hb9 : Below wq.heap.size wq w9 := (HB8.out.alloc HB8.out.size _).grown hg (by have := HB8.out.size; rw [World.size_alloc]; omega) (fun j hj => by have := (World.ownsRow.lt HO8.out j hj).1; have := HQS.out; omega)
        have e := (hb9.block Q (by have := HQS.out; omega)).trans HQH.out
        refine ⟨?_, hb9, e, by simp [World.cell?, e], by simp [World.frozen?, e], (Array.getElem?_eq_some_iff.1 e).1⟩
        unfold OwnStrs
        rw [List.length_append, strCells_append]
        exact ho⟩
      clear hb8 H7 y0 p0 p1 p2 pl HA0 HBA HS7
      have hb8 : Q + 1 ≤ w8.heap.size := by have := HB8.out.size; have := HQS.out; omega
      go_upto_region 10 with (at_builtin; go_must ((refine wpList_append_slc rfl _ _ 22 rfl (Q + 1) 9 i0 (.string ⟨#[]⟩) 1 16 Try.underlying22 hi hz0 hz1 hz2 rfl (by decide) _ p.vars.length (strCells p.vars) rfl (World.ownsRow.alloc HO8.out _) _ 1 [.string sQ] rfl (Slc.made (t := 9) [.string sQ] (by decide) rfl) (by simp [Value.oneCell']) (by unfold maxLen; omega) (by omega) (by simp; omega) ?_); intro v9 w9 hown9 hg9 hv9; obtain ⟨a9, c9, rfl⟩ := ownsRow_slice hown9; have H9 := HS9.out _ _ hown9 hg9; have HO9 := Keep.mk (And.intro H9.1 (And.intro H9.2.1 H9.2.2.1)); have n0 := H9.2.2.2.1; have n1 := H9.2.2.2.2.1; have n2 := H9.2.2.2.2.2; clear H9 hown9 hg9 hv9))
      clear n0 n1 n2 HS9 HO8 HB8 hb8 H1 HQH
      obtain ⟨wS, hwS⟩ : ∃ wS, wS = w9.setCell ⟨Q, 0, none⟩ (.slice a9 (p.vars.length + 1) c9) := ⟨_, rfl⟩
      have hSq : wS.heap[Q]? = some (.cells #[.slice a9 (p.vars.length + 1) c9, .slice a2 p.arrays.length c2, .slice a3 p.funcs.length c3] 26 (0, 0)) := by rw [hwS]; exact heap_setCell_same w9 Q 0 _ _ _ HO9.out.2.2
      have hSo : Strs wS (.slice a9 (p.vars.length + 1) c9) (p.vars ++ [sQ]) := by
        have : OwnStrs (Q + 1) wS (.slice a9 (p.vars.length + 1) c9) (p.vars ++ [sQ]) := by
          rw [hwS]
          exact ownsRow_setCell_below HO9.out.1 (a := ⟨Q, 0, none⟩) (Nat.lt_succ_self Q) _
        exact this.strs
      have hbS : Below Q wq wS := by
        have hm : Below Q wq w9 := HO9.out.2.1.mono (by have := HQS.out; omega)
        rw [hwS]
        exact hm.setCell (p := ⟨Q, 0, none⟩) (Nat.le_refl Q) _
      rw [← hwS]
      have HBS := Keep.mk (HBq.out.trans (hbS.mono HW0Q.out))
      have hpr := HPA.out _ HBS.out
      have HCQ := Keep.mk (check_any (p := ⟨p.vars ++ [sQ], p.arrays, p.funcs⟩) (w := wS) (vs := .slice a9 (p.vars.length + 1) c9) (rs := .slice a2 p.arrays.length c2) (fs := .slice a3 p.funcs.length c3) ⟨hSo, hpr.2.1, hpr.2.2⟩ HFQ.out)
      have n0 : wS.cell? ⟨Q, 0, none⟩ = some (.slice a9 (p.vars.length + 1) c9) := by simp [World.cell?, hSq]
      have n1 : wS.cell? ⟨Q, 1, none⟩ = some (.slice a2 p.arrays.length c2) := by simp [World.cell?, hSq]
      have n2 : wS.cell? ⟨Q, 2, none⟩ = some (.slice a3 p.funcs.length c3) := by simp [World.cell?, hSq]
      have nl : Q < wS.heap.size := (Array.getElem?_eq_some_iff.1 hSq).1
      have HCZ : Keep (sQ ∉ p.vars → (∀ a ∈ p.arrays, a.1 ≠ sQ) → (∀ f ∈ p.funcs, f.name ≠ sQ) → (∀ f ∈ p.funcs, sQ ∉ f.params ++ f.locals) → (check ⟨p.vars ++ [sQ], p.arrays, p.funcs⟩).2 = 0) := ⟨fun h1 h2 h3 h4 => wider_zero HV.out HN4.out h1 h2 h3 h4⟩
      clear hwS hSq hSo hbS hpr HO9
      generalize (check ⟨p.vars ++ [sQ], p.arrays, p.funcs⟩).2 = e10 at *
      generalize (check ⟨p.vars ++ [sQ], p.arrays, p.funcs⟩).1 = n10 at *
      go_wp2_with fail
      refine HCQ.out.mono ?_
      rintro _ w10 ⟨rfl, hb10⟩
      have HB10 := Keep.mk (HBS.out.trans (hb10.mono HBS.out.size))
      clear hb10 HBS HCQ n0 n1 n2 nl
      obtain ⟨p0, p1, p2, pl⟩ := HS.out _ HB10.out
      have HSc := Keep.mk (scalars_any (HPA.out _ HB10.out) HF.out)
      go_wp2_with fail
      refine HSc.out.mono ?_
      rintro e w11 ⟨v11, rfl, hv11, hb11⟩
      have HB11 := Keep.mk (HB10.out.trans (hb11.mono HB10.out.size))
      have hsl : (scalarsL p).length = scalarsN p := scalarsL_length p
      have HJ := Keep.mk (join_any hv11.strs (scalars_small HV.out) (by have := HN4.out; omega))
      have HSS : Keep ((mkS (Lib.join ((scalarsL p).map (·.data.toList)) [32])).size ≤ 1000000 ∧ ((mkS (Lib.join ((scalarsL p).map (·.data.toList)) [32])) ++ ⟨#[32]⟩ : ByteArray).data.toList = spaced p) := ⟨by
        have := join_small (scalars_small HV.out)
        rw [List.length_map] at this
        rw [size_mkS]
        have := HN4.out
        refine ⟨by omega, ?_⟩
        unfold spaced
        simp [mkS]⟩
      have HNT : Keep (Lib.contains (spaced p) sQ.data.toList = false → sQ ∉ p.vars ∧ ∀ f ∈ p.funcs, sQ ∉ f.params ++ f.locals) := ⟨not_taken⟩
      clear hv11 hb11 hsl HSc HB10 p0 p1 p2 pl
      generalize mkS (Lib.join ((scalarsL p).map (·.data.toList)) [32]) = J at *
      go_wp2_with fail
      refine HJ.out.mono ?_
      rintro _ w12 ⟨rfl, hb12⟩
      have HB12 := Keep.mk (HB11.out.trans (hb12.mono HB11.out.size))
      have hJ1 : ¬ 9223372036854775807 < J.size + 1 := by have := HSS.out.1; omega
      clear hb12 HB11 HJ
      go_wp2_with fail
      refine (repeat_q _).mono ?_
      rintro _ w13 ⟨rfl, hb13⟩
      have HB13 := Keep.mk (HB12.out.trans (hb13.mono HB12.out.size))
      have HCo := Keep.mk (Try.strings_Contains (J ++ ⟨#[32]⟩) sQ m w13 (by have := HSS.out.1; rw [ByteArray.size_append, show (⟨#[32]⟩ : ByteArray).size = 1 from rfl]; omega) (HMX.out.below (HB0.out.trans (HB13.out.mono HB0.out.size))))
      have HTT : Keep (Lib.contains (J ++ ⟨#[32]⟩ : ByteArray).data.toList sQ.data.toList = Lib.contains (spaced p) sQ.data.toList) := ⟨by rw [HSS.out.2]⟩
      rw [HTT.out] at HCo
      clear hb13 HB12 hJ1 HTT
      generalize Lib.contains (spaced p) sQ.data.toList = t at *
      go_wp2_with fail
      refine HCo.out.mono ?_
      rintro _ w14 ⟨rfl, rfl⟩
      clear HCo HSS
      obtain ⟨p0, p1, p2, pl⟩ := HS.out _ HB13.out
      have H2 := Keep.mk (HPA.out _ HB13.out).2.1
      have H3 := Keep.mk (HPA.out _ HB13.out).2.2
      have HW13 := Keep.mk (Below.refl w14.heap.size w14)
      have HBEG := Keep.mk HB13.out
      go_wp2_with fail
      clear p0 p1 p2 pl
      go_loopw [53, 10] (fun i s wr => ∃ (j : Nat) (b : Bool), j ≤ p.arrays.length ∧ i = .int .i64 j ∧ s = .bool b ∧ Keep (b = false → t = false ∧ ∀ a ∈ p.arrays.take j, a.1 ≠ sQ) ∧ Keep (Below w14.heap.size w14 wr)) (fun i _ _ => p.arrays.length - (intOf i).toNat)
      case atStart => exact ⟨0, t, Nat.zero_le _, rfl, rfl, ⟨fun h => ⟨h, by simp⟩⟩, HW13⟩
      case round =>
        obtain ⟨j, b, hj, rfl, rfl, HBb, HBr⟩ := hrel
        clear HW13
        by_cases hlt : j < p.arrays.length
        · have k0 : (0 : Int) ≤ j := by omega
          have k1' : (j : Int) < p.arrays.length := by omega
          obtain ⟨⟨x, sz⟩, hxk⟩ : ∃ x, p.arrays[j]? = some x := ⟨_, List.getElem?_eq_getElem hlt⟩
          obtain ⟨bb, o, cap, hv, hb, hc0, hc1⟩ := H2.out.get hxk
          simp only [Value.slice.injEq, true_and] at hv
          obtain ⟨rfl, rfl⟩ := hv
          have z0 := (HBr.out.cell (p := ⟨bb, o + j * 2, none⟩) hb).trans hc0
          have z1 := (HBr.out.cell (p := ⟨bb, o + j * 2 + 1, none⟩) hb).trans hc1
          have hbl : bb < wr.heap.size := Nat.lt_of_lt_of_le hb HBr.out.size
          have HST : Keep (∀ b', (b' = false → b = false ∧ x ≠ sQ) → b' = false → t = false ∧ ∀ a ∈ p.arrays.take (j + 1), a.1 ≠ sQ) := ⟨fun b' h1 h2 => by
            obtain ⟨g1, g2⟩ := h1 h2
            obtain ⟨g3, g4⟩ := HBb.out g1
            refine ⟨g3, fun a ha => ?_⟩
            rw [List.take_add_one, hxk, Option.toList_some] at ha
            rcases List.mem_append.1 ha with ha | ha
            · exact g4 a ha
            · rw [List.mem_singleton.1 ha]; exact g2⟩
          clear hc0 hc1 hxk
          go_upto_region 15 with (fail)
          have hbz : Below wr.heap.size wr (wr.alloc (.cells #[.string x, .int .i64 sz] 68)) := (Below.refl _ _).alloc (Nat.le_refl _) _
          have hZ := heap_alloc_new wr (.cells #[.string x, .int .i64 sz] 68)
          have HBz := Keep.mk (HBr.out.trans (hbz.mono HBr.out.size))
          obtain ⟨Y, hY⟩ : ∃ Y, Y = wr.heap.size := ⟨_, rfl⟩
          rw [← hY] at hZ ⊢
          have HZ := Keep.mk hZ
          clear hbz hZ hY z0 z1 hbl
          generalize (wr.alloc (.cells #[.string x, .int .i64 sz] 68)) = wz at *
          have HS1 : Keep (∀ w', Below wz.heap.size wz w' → w'.cell? ⟨Y, 0, none⟩ = some (.string x) ∧ Below wz.heap.size wz w') := ⟨fun w' h => by
            have e := (h.block Y (Array.getElem?_eq_some_iff.1 HZ.out).1).trans HZ.out
            exact ⟨by simp [World.cell?, e], h⟩⟩
          cases b with
          | true =>
            go_quiet (fail)
            go_wp2_with fail
            go_roundw
            case rel => exact ⟨j + 1, true, by omega, by go_num, rfl, ⟨HST.out true (fun h => by cases h)⟩, ⟨below_drewN HBz.out nq⟩⟩
            case measure => simp [intOf]; omega
          | false =>
            obtain ⟨c, hc⟩ : ∃ c, c = decide (x = sQ) := ⟨_, rfl⟩
            have q1 : (x.toList == sQ.toList) = c := by rw [toList_beq, hc]
            have HC := Keep.mk hc
            clear hc
            go_region_held3 (fun w' => w'.cell? ⟨Y, 0, none⟩ = some (.string x) ∧ Below wz.heap.size wz w')
              (first | with_reducible exact HS1.out _ (Below.refl wz.heap.size wz).drew | with_reducible exact HS1.out _ (Below.refl wz.heap.size wz) | with_reducible exact HS1.out _ (held_onS hb4 (And.right (by assumption))) | with_reducible assumption)
              ((go_at_call 25; (with_reducible refine (repeat_q _).mono ?_); rintro e w4 ⟨rfl, hb4⟩))
            all_goals (
              have HBc := Keep.mk (HBz.out.trans ((show Below wz.heap.size wz w4 from And.right (by assumption)).mono HBz.out.size))
              clear q1
              go_wp2_with fail
              go_roundw
              case rel => exact ⟨j + 1, c, by omega, by go_num, rfl, ⟨HST.out c (fun h => by have h3 : x ≠ sQ := (by have := HC.out; rw [h] at this; exact of_decide_eq_false this.symm); first | exact ⟨rfl, h3⟩ | exact ⟨trivial, h3⟩ | exact h3)⟩, HBc⟩
              case measure => simp [intOf]; omega)
        · obtain rfl : j = p.arrays.length := by omega
          rw [List.take_length] at HBb
          obtain ⟨p0, p1, p2, pl⟩ := HS.out _ (HB13.out.trans (HBr.out.mono HB13.out.size))
          clear hlt hj
          generalize wr = wo at *
          generalize p.arrays.length = al at *
          go_wp2_with fail
          clear p0 p1 p2 pl
          go_loopw [68, 10] (fun i s wr => ∃ (j : Nat) (b2 : Bool), j ≤ p.funcs.length ∧ i = .int .i64 j ∧ s = .bool b2 ∧ Keep (b2 = false → b = false ∧ ∀ f ∈ p.funcs.take j, f.name ≠ sQ) ∧ Keep (Below w14.heap.size w14 wr)) (fun i _ _ => p.funcs.length - (intOf i).toNat)
          case atStart => exact ⟨0, b, Nat.zero_le _, rfl, rfl, ⟨fun h => ⟨h, by simp⟩⟩, HBr⟩
          case round =>
            obtain ⟨j, b2, hj, rfl, rfl, HBb2, HBr2⟩ := hrel
            clear HBr
            by_cases hlt : j < p.funcs.length
            · have k0 : (0 : Int) ≤ j := by omega
              have k1' : (j : Int) < p.funcs.length := by omega
              obtain ⟨f, hfk⟩ : ∃ f, p.funcs[j]? = some f := ⟨_, List.getElem?_eq_getElem hlt⟩
              obtain ⟨bb, o, cap, up, ul, ub, hv, hb, x0, x1, x2, x3, hS1, hS2, nb, hS3⟩ := H3.out.get hfk
              simp only [Value.slice.injEq, true_and] at hv
              obtain ⟨rfl, rfl⟩ := hv
              have z0 := (HBr2.out.cell (p := ⟨bb, o + j * 4, none⟩) hb).trans x0
              have z1 := (HBr2.out.cell (p := ⟨bb, o + j * 4 + 1, none⟩) hb).trans x1
              have z2 := (HBr2.out.cell (p := ⟨bb, o + j * 4 + 2, none⟩) hb).trans x2
              have z3 := (HBr2.out.cell (p := ⟨bb, o + j * 4 + 3, none⟩) hb).trans x3
              have hbl : bb < wr.heap.size := Nat.lt_of_lt_of_le hb HBr2.out.size
              obtain ⟨b1, d1, rfl, _, _⟩ := hS1.len
              obtain ⟨b2', d2, rfl, _, _⟩ := hS2.len
              obtain ⟨b3, d3, rfl, _, _⟩ := hS3.len
              have HST : Keep (∀ b', (b' = false → b2 = false ∧ f.name ≠ sQ) → b' = false → b = false ∧ ∀ f ∈ p.funcs.take (j + 1), f.name ≠ sQ) := ⟨fun b' h1 h2 => by
                obtain ⟨g1, g2⟩ := h1 h2
                obtain ⟨g3, g4⟩ := HBb2.out g1
                refine ⟨g3, fun a ha => ?_⟩
                rw [List.take_add_one, hfk, Option.toList_some] at ha
                rcases List.mem_append.1 ha with ha | ha
                · exact g4 a ha
                · rw [List.mem_singleton.1 ha]; exact g2⟩
              clear x0 x1 x2 x3 hS1 hS2 hS3 hfk
              generalize f.params.length = n1 at *
              generalize f.locals.length = n2 at *
              generalize f.body.length = n3 at *
              generalize f.name = x at *
              go_upto_region 20 with (fail)
              have hbz : Below wr.heap.size wr (wr.alloc (.cells #[.string x, .slice b1 n1 d1, .slice b2' n2 d2, .slice b3 n3 d3] 36)) := (Below.refl _ _).alloc (Nat.le_refl _) _
              have hZ := heap_alloc_new wr (.cells #[.string x, .slice b1 n1 d1, .slice b2' n2 d2, .slice b3 n3 d3] 36)
              have HBz := Keep.mk (HBr2.out.trans (hbz.mono HBr2.out.size))
              obtain ⟨Y, hY⟩ : ∃ Y, Y = wr.heap.size := ⟨_, rfl⟩
              rw [← hY] at hZ ⊢
              have HZ := Keep.mk hZ
              clear hbz hZ hY z0 z1 z2 z3 hbl
              generalize (wr.alloc (.cells #[.string x, .slice b1 n1 d1, .slice b2' n2 d2, .slice b3 n3 d3] 36)) = wz at *
              have HS1 : Keep (∀ w', Below wz.heap.size wz w' → w'.cell? ⟨Y, 0, none⟩ = some (.string x) ∧ Below wz.heap.size wz w') := ⟨fun w' h => by
                have e := (h.block Y (Array.getElem?_eq_some_iff.1 HZ.out).1).trans HZ.out
                exact ⟨by simp [World.cell?, e], h⟩⟩
              cases b2 with
              | true =>
                go_quiet (fail)
                go_wp2_with fail
                go_roundw
                case rel => exact ⟨j + 1, true, by omega, by go_num, rfl, ⟨HST.out true (fun h => by cases h)⟩, ⟨below_drewN HBz.out nq⟩⟩
                case measure => simp [intOf]; omega
              | false =>
                obtain ⟨c, hc⟩ : ∃ c, c = decide (x = sQ) := ⟨_, rfl⟩
                have q1 : (x.toList == sQ.toList) = c := by rw [toList_beq, hc]
                have HC := Keep.mk hc
                clear hc
                go_region_held3 (fun w' => w'.cell? ⟨Y, 0, none⟩ = some (.string x) ∧ Below wz.heap.size wz w')
                  (first | with_reducible exact HS1.out _ (Below.refl wz.heap.size wz).drew | with_reducible exact HS1.out _ (Below.refl wz.heap.size wz) | with_reducible exact HS1.out _ (held_onS hb4 (And.right (by assumption))) | with_reducible assumption)
                  ((go_at_call 25; (with_reducible refine (repeat_q _).mono ?_); rintro e w4 ⟨rfl, hb4⟩))
                all_goals (
                  have HBc := Keep.mk (HBz.out.trans ((show Below wz.heap.size wz w4 from And.right (by assumption)).mono HBz.out.size))
                  clear q1
                  go_wp2_with fail
                  go_roundw
                  case rel => exact ⟨j + 1, c, by omega, by go_num, rfl, ⟨HST.out c (fun h => by have h3 : x ≠ sQ := (by have := HC.out; rw [h] at this; exact of_decide_eq_false this.symm); first | exact ⟨rfl, h3⟩ | exact ⟨trivial, h3⟩ | exact h3)⟩, HBc⟩
                  case measure => simp [intOf]; omega)
            · obtain rfl : j = p.funcs.length := by omega
              rw [List.take_length] at HBb2
              have HE10 : Keep (b2 = false → e10 = 0) := ⟨fun h => by
                obtain ⟨g1, g2⟩ := HBb2.out h
                obtain ⟨g3, g4⟩ := HBb.out g1
                obtain ⟨g5, g6⟩ := HNT.out g3
                exact HCZ.out g5 g4 g2 g6⟩
              have HBn := Keep.mk (HB13.out.trans (HBr2.out.mono HB13.out.size))
              clear hlt hj HBb HBb2 HNT HCZ HBr2 HBEG
              generalize wr = wn at *
              go_upto_region 22 with (fail)
              go_cut [85] from 80 to 86 (fun v wx => v = .bool false ∧ wx = wn)
              case first =>
                cases b2 with
                | true =>
                  go_wp2_with fail
                  go_meet
                  exact ⟨rfl, rfl⟩
                | false =>
                  have q1 : (e10 != 0) = false := by rw [HE10.out rfl]; rfl
                  go_wp2_with fail
                  go_meet
                  exact ⟨rfl, rfl⟩
              case rest =>
              obtain ⟨rfl, hwc⟩ := hcut
              subst hwc
              generalize wc = wn at *
              have hfp : 0 < p.funcs.length := funcs_pos HV.out
              have hm1 : (k : Int).tmod (p.funcs.length : Int) = ((k % p.funcs.length : Nat) : Int) := rfl
              have hm2 : (k : Int) % (p.funcs.length : Int) = ((k % p.funcs.length : Nat) : Int) := rfl
              have hlt : k % p.funcs.length < p.funcs.length := Nat.mod_lt _ hfp
              have hne : ¬ (p.funcs.length : Int) = 0 := by omega
              generalize k % p.funcs.length = i at *
              obtain ⟨p0, p1, p2, pl⟩ := HS.out _ HBn.out
              have H3n := (HPA.out _ HBn.out).2.2
              obtain ⟨l1, f, l2, hfs, hl1⟩ := fu_one hlt
              obtain ⟨cs, hsl, hrow⟩ := H3n.slc
              have hrow' := hrow
              rw [hfs] at hrow'
              obtain ⟨cs1, cs2', rfl, hr1, hr2⟩ := hrow'.split
              obtain ⟨fp, fl, fb, cs3, rfl, hvf, hr3⟩ := hr2
              have hcl : cs1.length = i * 4 := by rw [hr1.length, hl1]
              obtain ⟨_, _, hv, _, _, _, hc4⟩ := id hsl
              simp only [Value.slice.injEq, true_and] at hv
              obtain ⟨rfl, rfl⟩ := hv
              obtain ⟨b, o, rfl, hb, hc⟩ : ∃ b o, a3 = some ⟨b, o, none⟩ ∧ b < wn.heap.size ∧ ∀ j u, (cs1 ++ Value.string f.name :: fp :: fl :: fb :: cs3)[j]? = some u → wn.cell? ⟨b, o + j, none⟩ = some u := by
                rcases hc4 with h | h
                · omega
                · exact h
              have hat : ∀ k u, (Value.string f.name :: fp :: fl :: fb :: cs3)[k]? = some u → wn.cell? ⟨b, o + (i * 4 + k), none⟩ = some u := fun k u h => hc _ _ (by
                rw [List.getElem?_append_right (by omega), hcl, Nat.add_sub_cancel_left]
                exact h)
              obtain ⟨⟨f1a, f1c, rfl⟩, ⟨f2a, f2c, rfl⟩, f3a, f3c, rfl⟩ := hvf.slices
              have x0 := hat 0 _ rfl
              have x1 := hat 1 _ rfl
              have x2 := hat 2 _ rfl
              have x3 := hat 3 _ rfl
              rw [show o + (i * 4 + 0) = o + i * 4 by omega] at x0
              rw [show o + (i * 4 + 1) = o + i * 4 + 1 by omega] at x1
              rw [show o + (i * 4 + 2) = o + i * 4 + 2 by omega] at x2
              rw [show o + (i * 4 + 3) = o + i * 4 + 3 by omega] at x3
              have HVF := Keep.mk hvf
              have HSL := Keep.mk hsl
              have HRW := Keep.mk hrow
              have HR12 := Keep.mk (And.intro hr1 (And.intro hr3 hcl))
              have HL := Keep.mk (And.intro hfs hl1)
              have i0' : (0 : Int) ≤ (i : Int) := by omega
              have i1 : (i : Int) < (p.funcs.length : Int) := by omega
              obtain ⟨_, _, nb, hnb⟩ := id hvf
              obtain ⟨_, _, hbe, hb3, hb4⟩ := hnb.len
              simp only [Value.slice.injEq, true_and] at hbe
              obtain ⟨rfl, rfl⟩ := hbe
              unfold maxLen at hb4
              have HNB := Keep.mk hnb
              clear hvf hsl hrow hrow' hr1 hr3 hcl hfs hl1 hat hc hc4 H3n hnb H2 H3 hfp
              go_upto_region 26 with (fail)
              clear hm1 hm2 hne x0 x1 x2 x3 p0 p1 p2 pl
              obtain ⟨F, hF⟩ : ∃ F, F = wn.heap.size := ⟨_, rfl⟩
              have hbF : Below wn.heap.size wn (wn.alloc (.cells #[.string f.name, .slice f1a f.params.length f1c, .slice f2a f.locals.length f2c, .slice f3a f.body.length f3c] 36)) := (Below.refl _ _).alloc (Nat.le_refl _) _
              have hFh := heap_alloc_new wn (.cells #[.string f.name, .slice f1a f.params.length f1c, .slice f2a f.locals.length f2c, .slice f3a f.body.length f3c] 36)
              have hFs : (wn.alloc (.cells #[.string f.name, .slice f1a f.params.length f1c, .slice f2a f.locals.length f2c, .slice f3a f.body.length f3c] 36)).heap.size = F + 1 := by rw [hF]; exact World.size_alloc ..
              rw [← hF] at hFh ⊢
              have HBF := Keep.mk hbF
              have HFH := Keep.mk hFh
              have HFS := Keep.mk hFs
              have HF0 := Keep.mk hF
              clear hbF hFh hFs hF
              generalize (wn.alloc (.cells #[.string f.name, .slice f1a f.params.length f1c, .slice f2a f.locals.length f2c, .slice f3a f.body.length f3c] 36)) = wF at *
              have y3 : wF.cell? ⟨F, 3, none⟩ = some (.slice f3a f.body.length f3c) := by simp [World.cell?, HFH.out]
              have yf : wF.frozen? ⟨F, 3, none⟩ = false := by simp [World.frozen?, HFH.out]
              have yl : F < wF.heap.size := (Array.getElem?_eq_some_iff.1 HFH.out).1
              by_cases hb0 : f.body.length = 0
              · have q1 : ((f.body.length : Int) == 0) = true := by rw [beq_iff_eq]; omega
                have HBE := Keep.mk (HB0.out.trans ((HBn.out.trans (HBF.out.mono HBn.out.size)).mono HB0.out.size))
                clear hb0
                go_wp2_with fail
                go_ret
                exact ⟨rfl, HBE.out⟩
              · have q1 : ((f.body.length : Int) == 0) = false := by rw [beq_eq_false_iff_ne]; omega
                obtain ⟨m', hm'⟩ : ∃ m', m' = f.body.length - 1 := ⟨_, rfl⟩
                have hm1 : (f.body.length : Int) - 1 = (m' : Int) := by omega
                have hm2 : (0 : Int) ≤ (m' : Int) := by omega
                have hm3 : (m' : Int) ≤ (f3c : Int) := by omega
                have hmle : m' ≤ f.body.length := by omega
                have HST := Keep.mk (HNB.out.drop m' hmle)
                have HLE : Keep (FuLe { f with body := f.body.take m' } f) := ⟨⟨rfl, rfl, rfl, f.body.drop m', (List.take_append_drop _ _).symm⟩⟩
                have HML : Keep ((f.body.take m').length = m') := ⟨by rw [List.length_take]; omega⟩
                obtain ⟨p0, p1, p2, pl⟩ := HS.out _ (HBn.out.trans (HBF.out.mono HBn.out.size))
                have hwF : w.heap.size ≠ F := by have := HF0.out; have := (HS.out _ HBn.out).2.2.2; omega
                clear hb0 hm' hmle
                go_upto_region 30 with (fail)
                have e1 := heap_setCell_same wF F 3 _ _ (.slice f3a m' f3c) HFH.out
                have hs1 : (wF.setCell ⟨F, 3, none⟩ (.slice f3a m' f3c)).heap.size = F + 1 := by rw [← HFS.out]; simp
                have hs0 : (wF.setCell ⟨F, 3, none⟩ (.slice f3a m' f3c)).heap.size = wF.heap.size := by simp
                have b1 : Below wn.heap.size wn (wF.setCell ⟨F, 3, none⟩ (.slice f3a m' f3c)) := HBF.out.setCell (p := ⟨F, 3, none⟩) (by rw [HF0.out]; exact Nat.le_refl _) _
                generalize (wF.setCell ⟨F, 3, none⟩ (.slice f3a m' f3c)) = w5 at *
                obtain ⟨Q', hQ0⟩ : ∃ Q', Q' = wF.heap.size := ⟨_, rfl⟩
                have hQ' : Q' = w5.heap.size := by rw [hs0, hQ0]
                obtain ⟨wr', hwr⟩ : ∃ wr', wr' = (w5.alloc (.cells #[.slice a1 p.vars.length c1, .slice a2 al c2, .slice (some ⟨b, o, none⟩) p.funcs.length c3] 26)) := ⟨_, rfl⟩
                have hqh : wr'.heap[Q']? = some (.cells #[.slice a1 p.vars.length c1, .slice a2 al c2, .slice (some ⟨b, o, none⟩) p.funcs.length c3] 26 (0, 0)) := by rw [hwr, hQ']; exact heap_alloc_new w5 _
                have hqs' : wr'.heap.size = Q' + 1 := by rw [hwr, hQ', World.size_alloc]
                have hbq : Below w5.heap.size w5 wr' := by rw [hwr]; exact (Below.refl _ _).alloc (Nat.le_refl _) _
                have hbr : Below wn.heap.size wn wr' := b1.trans (hbq.mono b1.size)
                have HBq' := Keep.mk (HBn.out.trans (hbr.mono HBn.out.size))
                have HWq' := Keep.mk (HB0.out.trans (HBq'.out.mono HB0.out.size))
                have HNq := Keep.mk hbr
                have HFq := Keep.mk ((hbq.block F (Array.getElem?_eq_some_iff.1 e1).1).trans e1)
                have hFQ : F < Q' := by omega
                rw [← hwr, ← hQ0]
                have hwQ' : w.heap.size < Q' := by have := HF0.out; have := (HS.out _ HBn.out).2.2.2; omega
                have HW0Q' : Keep (w0.heap.size ≤ Q' ∧ wn.heap.size ≤ Q') := ⟨by have := HBn.out.size; have := b1.size; omega⟩
                clear hwr hbq hbr p0 p1 p2 pl hQ' hQ0 hs0 e1 hs1 b1 y3 yf yl hwF HFH HFS HBF q1 hm1 hm2 hm3
                obtain ⟨j0, hj, hy0, hy1, hy2⟩ := info_parts Try.infoFunc
                obtain ⟨p0, p1, p2, pl⟩ := HS.out _ HBq'.out
                have HQS' := Keep.mk hqs'
                have hA0 : (wr'.alloc (.cells #[] 36)).ownsRow (Q' + 1) 36 4 (.slice (some ⟨wr'.heap.size, 0, none⟩) 0 0) 0 [] := World.ownsRow_made (base := Q' + 1) (e := 36) (size := 4) wr' #[] 0 (by omega) (by decide) rfl
                have HA0 := Keep.mk hA0
                have hb0 : Below wr'.heap.size wr' (wr'.alloc (.cells #[] 36)) := (Below.refl _ _).alloc (Nat.le_refl _) _
                have HBA := Keep.mk hb0
                have HFI : Keep (∀ w7, (wr'.alloc (.cells #[] 36)).grownBy w7 (Value.slice (some ⟨wr'.heap.size, 0, none⟩) 0 0).ownBlock → w7.cell? ⟨Q', 2, none⟩ = some (.slice (some ⟨b, o, none⟩) p.funcs.length c3) ∧ w7.frozen? ⟨Q', 2, none⟩ = false ∧ Q' < w7.heap.size ∧ Below wr'.heap.size wr' w7 ∧ w7.heap[Q']? = some (.cells #[.slice a1 p.vars.length c1, .slice a2 al c2, .slice (some ⟨b, o, none⟩) p.funcs.length c3] 26 (0, 0))) := ⟨fun w7 hg => by
                  have hb7 : Below wr'.heap.size wr' w7 := hb0.grown hg hb0.size (fun j hj => by cases hj; exact Nat.le_refl _)
                  have e := (hb7.block Q' (by omega)).trans hqh
                  exact ⟨by simp [World.cell?, e], by simp [World.frozen?, e], (Array.getElem?_eq_some_iff.1 e).1, hb7, e⟩⟩
                have y2 : (wr'.alloc (.cells #[] 36)).cell? ⟨w.heap.size, 2, none⟩ = some (.slice (some ⟨b, o, none⟩) p.funcs.length c3) := (hb0.cell (p := ⟨w.heap.size, 2, none⟩) (by show w.heap.size < _; omega)).trans p2
                have hnl : p.funcs.length ≤ 400 := hfl
                clear hA0 hb0 hqs' hqh
                go_upto_region 31 with (at_builtin; go_must ((refine wpList_append_slc rfl _ _ 24 rfl (Q' + 1) 36 j0 (.agg #[.string ⟨#[]⟩, .slice none 0 0, .slice none 0 0, .slice none 0 0]) 4 88 Try.underlying24 hj hy0 hy1 hy2 rfl (by decide) _ 0 [] rfl HA0.out _ p.funcs.length _ rfl (HSL.out.below (HNq.out.trans (HBA.out.mono HNq.out.size)) (Nat.le_refl _)) HRW.out.one (by unfold maxLen; omega) (by omega) (by have := HQS'.out; simp; omega) ?_); intro v7 w7 hown7 hg7 hv7; obtain ⟨a7, c7, rfl⟩ := ownsRow_slice hown7; have H7 := Keep.mk (HFI.out _ hg7); have n0 := H7.out.1; have n1 := H7.out.2.1; have n2 := H7.out.2.2.1; have HO7 := Keep.mk hown7; clear hown7 hg7 hv7))
                clear n0 n1 n2 y2 p0 p1 p2 pl HA0 HBA HFI
                rw [Nat.zero_add, List.nil_append] at HO7
                obtain ⟨R, _, hv7, hR1, hR2⟩ := row_form HO7.out (by omega)
                simp only [Value.slice.injEq, true_and] at hv7
                obtain ⟨rfl, rfl⟩ := hv7
                have hQR : Q' ≠ R := by omega
                obtain ⟨w8, hw8⟩ : ∃ w8, w8 = w7.setCell ⟨Q', 2, none⟩ (.slice (some ⟨R, 0, none⟩) p.funcs.length c7) := ⟨_, rfl⟩
                have h8q : w8.heap[Q']? = some (.cells #[.slice a1 p.vars.length c1, .slice a2 al c2, .slice (some ⟨R, 0, none⟩) p.funcs.length c7] 26 (0, 0)) := by rw [hw8]; exact heap_setCell_same w7 Q' 2 _ _ _ H7.out.2.2.2.2
                have h8o : w8.ownsRow (Q' + 1) 36 4 (.slice (some ⟨R, 0, none⟩) p.funcs.length c7) p.funcs.length (cs1 ++ Value.string f.name :: .slice f1a f.params.length f1c :: .slice f2a f.locals.length f2c :: .slice f3a f.body.length f3c :: cs3) := by
                  rw [hw8]
                  exact ownsRow_setCell_below HO7.out (a := ⟨Q', 2, none⟩) (Nat.lt_succ_self Q') _
                have hb8 : Below Q' wr' w8 := by
                  have hm : Below Q' wr' w7 := H7.out.2.2.2.1.mono (by have := HQS'.out; omega)
                  rw [hw8]
                  exact hm.setCell (p := ⟨Q', 2, none⟩) (Nat.le_refl Q') _
                rw [← hw8]
                have h8f := (hb8.block F hFQ).trans HFq.out
                have hcl := HR12.out.2.2
                have r : ∀ k u, (Value.string f.name :: Value.slice f1a f.params.length f1c :: Value.slice f2a f.locals.length f2c :: Value.slice f3a f.body.length f3c :: cs3)[k]? = some u → w8.cell? ⟨R, i * 4 + k, none⟩ = some u := fun k u h => by
                  have hh : (cs1 ++ Value.string f.name :: .slice f1a f.params.length f1c :: .slice f2a f.locals.length f2c :: .slice f3a f.body.length f3c :: cs3)[i * 4 + k]? = some u := by
                    rw [List.getElem?_append_right (by omega), hcl, Nat.add_sub_cancel_left]; exact h
                  have := World.ownsRow.cells h8o (g := R) rfl _ _ hh
                  rwa [Addr.add_lit, Nat.zero_add] at this
                have r0 := r 0 _ rfl
                have r1 := r 1 _ rfl
                have r2 := r 2 _ rfl
                have r3 := r 3 _ rfl
                rw [Nat.add_zero] at r0
                have rf : ∀ j, w8.frozen? ⟨R, j, none⟩ = false := World.ownsRow.frozenAt h8o
                have rl : R < w8.heap.size := (World.ownsRow.lt h8o R rfl).2
                have q2 : w8.cell? ⟨Q', 2, none⟩ = some (.slice (some ⟨R, 0, none⟩) p.funcs.length c7) := by simp [World.cell?, h8q]
                have ql : Q' < w8.heap.size := (Array.getElem?_eq_some_iff.1 h8q).1
                have z0 : w8.cell? ⟨F, 0, none⟩ = some (.string f.name) := by simp [World.cell?, h8f]
                have z1 : w8.cell? ⟨F, 1, none⟩ = some (.slice f1a f.params.length f1c) := by simp [World.cell?, h8f]
                have z2 : w8.cell? ⟨F, 2, none⟩ = some (.slice f2a f.locals.length f2c) := by simp [World.cell?, h8f]
                have z3 : w8.cell? ⟨F, 3, none⟩ = some (.slice f3a m' f3c) := by simp [World.cell?, h8f]
                have zl : F < w8.heap.size := (Array.getElem?_eq_some_iff.1 h8f).1
                have HP8 := Keep.mk (row_put4 h8o i (.string f.name) (.slice f1a f.params.length f1c) (.slice f2a f.locals.length f2c) (.slice f3a m' f3c))
                have HG8 := Keep.mk (grown_put4 w8 R i (.string f.name) (.slice f1a f.params.length f1c) (.slice f2a f.locals.length f2c) (.slice f3a m' f3c))
                rw [set4_at hcl] at HP8
                have H8Q := Keep.mk h8q
                have HB8 := Keep.mk hb8
                have HRI : Keep (Q' ≠ R ∧ Q' + 1 ≤ R) := ⟨hQR, hR1⟩
                clear hw8 h8q h8o hb8 h8f r hcl hR1 hR2 hQR H7 HO7 HFq
                go_upto_region 32 with (fail)
                unfold put4 at HP8 HG8
                generalize (((w8.setCell ⟨R, i * 4, none⟩ (.string f.name)).setCell ⟨R, i * 4 + 1, none⟩ (.slice f1a f.params.length f1c)).setCell ⟨R, i * 4 + 2, none⟩ (.slice f2a f.locals.length f2c)).setCell ⟨R, i * 4 + 3, none⟩ (.slice f3a m' f3c) = wc at *
                clear r0 r1 r2 r3 rf rl q2 ql z0 z1 z2 z3 zl
                have hqc := (HG8.out.block Q' (Array.getElem?_eq_some_iff.1 H8Q.out).1 (fun e => HRI.out.1 (Option.some.inj e))).trans H8Q.out
                have hb9 : Below Q' wr' wc := HB8.out.grown HG8.out (by have := HB8.out.size; have := HQS'.out; omega) (fun j hj => by cases hj; have := HRI.out.2; omega)
                have hbn : Below wn.heap.size wn wc := HNq.out.trans (hb9.mono HW0Q'.out.2)
                have HBc := Keep.mk (HBq'.out.trans (hb9.mono HW0Q'.out.1))
                have hpr := HPA.out _ HBc.out
                have hlen : (l1 ++ { f with body := f.body.take m' } :: l2).length = p.funcs.length := by rw [HL.out.1]; simp
                have hfn : FnsAt wc (.slice (some ⟨R, 0, none⟩) p.funcs.length c7) (l1 ++ { f with body := f.body.take m' } :: l2) := by
                  refine FnRow.fns (cs := cs1 ++ Value.string f.name :: .slice f1a f.params.length f1c :: .slice f2a f.locals.length f2c :: .slice f3a m' f3c :: cs3) ?_ (by rw [hlen]; exact Slc.of_owns HP8.out)
                  obtain ⟨hv1, hv2, _⟩ := HVF.out
                  exact (HR12.out.1.below hbn).append ⟨_, _, _, _, rfl, ⟨hv1.below hbn (Nat.le_refl _), hv2.below hbn (Nat.le_refl _), nb, HST.out.below hbn (Nat.le_refl _)⟩, HR12.out.2.1.below hbn⟩
                have HCQ := check_any (p := ⟨p.vars, p.arrays, l1 ++ { f with body := f.body.take m' } :: l2⟩) (w := wc) (vs := .slice a1 p.vars.length c1) (rs := .slice a2 al c2) (fs := .slice (some ⟨R, 0, none⟩) p.funcs.length c7) ⟨hpr.1, hpr.2.1, hfn⟩ (fits_shorter HF.out HL.out.1 HLE.out)
                rw [check_of_ok (shorter_valid HV.out HL.out.1 HLE.out)] at HCQ
                have HK := Keep.mk HCQ
                have n0 : wc.cell? ⟨Q', 0, none⟩ = some (.slice a1 p.vars.length c1) := by simp [World.cell?, hqc]
                have n1 : wc.cell? ⟨Q', 1, none⟩ = some (.slice a2 al c2) := by simp [World.cell?, hqc]
                have n2 : wc.cell? ⟨Q', 2, none⟩ = some (.slice (some ⟨R, 0, none⟩) p.funcs.length c7) := by simp [World.cell?, hqc]
                have nl : Q' < wc.heap.size := (Array.getElem?_eq_some_iff.1 hqc).1
                have HWc := Keep.mk (HB0.out.trans (HBc.out.mono HB0.out.size))
                clear hqc hb9 hpr hlen hfn HCQ hbn
                go_wp2_with fail
                refine HK.out.mono ?_
                rintro _ w10 ⟨rfl, hb10⟩
                have HBE := Keep.mk (HWc.out.trans (hb10.mono HWc.out.size))
                clear hb10
                go_wp2_with fail
                go_ret
                exact ⟨rfl, HBE.out⟩
    · have hq2 : ((check p).2 != 0) = true := by simp [he]
      have HBE := Keep.mk (HB0.out.trans (HB3.out.mono HB0.out.size))
      clear he
      generalize (check p).2 = ce at *
      generalize (check p).1 = cn at *
      go_wp2_with fail
      go_ret
      exact ⟨rfl, HBE.out⟩
  · have hq : (400 : Int) < (sizeP p : Int) := by omega
    have HBE := Keep.mk (HB0.out.trans (HB2.out.mono HB0.out.size))
    go_wp2_with fail
    go_ret
    exact ⟨rfl, HBE.out⟩
theorem CheckerRemoval_walk : LawWalkU 10 Try.f10 := by
  intro H enc W base args ds ps hval hA hsz hk hsh
  rw [Try.params10] at hA hval hsz
  obtain ⟨v0, vs0, d0, ds0, p0, q0, hargs, rfl, rfl, h0, r0⟩ := trodAll_cons hA
  obtain ⟨v1, vs1, d1, ds1, p1, q1, rfl, rfl, rfl, h1, r1⟩ := trodAll_cons r0
  obtain ⟨rfl, rfl, rfl⟩ := trodAll_nil r1
  obtain rfl : args = #[v0, v1] := by cases args; simp_all
  obtain ⟨vs, rs, fs, p, rfl, hp, _, hb⟩ := open_prog (hval 0 26 v0 rfl rfl) h0 (bulk_each hk (by simp))
  obtain ⟨n, rfl, rfl, rfl, hn⟩ := open_int Try.underlying5 (hval 1 5 v1 rfl rfl) h1
  have hn' : 0 ≤ n ∧ n ≤ 255 := by simpa [Lit.wf, IntKind.min, IntKind.max, IntKind.signed, IntKind.bits] using hn
  obtain ⟨n, rfl⟩ := Int.eq_ofNat_of_zero_le hn'.1
  obtain ⟨m, hm⟩ := maxAt_of hsh
  exact checkerRemoval_any hp (sizeP_bulk hb) n (by omega) m hm
end Go.Proofs.Ytgimdbflpdmlmaa
namespace Go.Proofs.Ytgimdbflpdmlmaa
open Go.ChangeShapes Go.WideShapes Go.ChangeAt Go.RowKit
set_option maxRecDepth 100000 in
theorem CheckerRemoval_lifted (os : Os) (started : os.Started) (H : Type) (enc : TypeId × Value → H) (F : Stop.Interp) :
    ReturnsInHanded {} Try.checked os 10 .any ((Rows.OpenSpec.upto Rows.checkerRemovalSpec).pre6 enc Try.prog Try.f10 Rows.checkerRemovalUptoRow.domain false) (((Rows.OpenSpec.upto Rows.checkerRemovalSpec).at F).post enc Try.prog Try.f10 false true false false) := by
  refine returns_upto (C := Try.checked) (s := Rows.OpenSpec.upto Rows.checkerRemovalSpec) (k := Rows.uptoSmall) rfl own started (by kernel_rfl) Try.func10
    (OpenSpec.witness (enc := enc) (C := Try.checked) (s := Rows.OpenSpec.upto Rows.checkerRemovalSpec) (k := Rows.uptoSmall) rfl false ⟨#[], #[.agg #[.slice none 0 0, .slice none 0 0, .slice none 0 0], .int .u8 0], []⟩ 8 (by kernel_rfl) (by kernel_rfl) (by kernel_rfl)
      (x := ([.agg [.nil, .nil, .nil], .lit (.int .u8 0)], [], [])) (by kernel_rfl) rfl (by kernel_rfl)) ?_
  intro W base args ds gs before hval hW hk hsz hsh
  exact law_contract_upto (s := Rows.checkerRemovalSpec) (by kernel_rfl) (by kernel_rfl) ⟨rfl, fun H ds h => by rw [Try.params10] at h; match ds, h with | [d0, d1], _ => rfl⟩ CheckerRemoval_walk W base args ds gs before hval hW hk hsz hsh
theorem CheckerRemoval_proved : Rows.CheckerRemovalUptoSaid :=
  OpenClaim.holds_of_cond 10 Try.f10 rfl rfl rfl rfl rfl rfl rfl ⟨rfl, rfl, rfl, rfl, rfl⟩ rfl rfl rfl rfl rfl (by kernel_rfl) Try.func10 (by kernel_rfl)
    (of_decide_eq_true (by kernel_rfl)) (by unfold Func.isWrapper; first | (rw [if_pos (by decide +kernel)]; kernel_rfl) | (rw [if_neg (by decide +kernel)]; exact ⟨rfl, rfl⟩))
    (fun os started H enc _ F => CheckerRemoval_lifted os started H enc F)
end Go.Proofs.Ytgimdbflpdmlmaa
