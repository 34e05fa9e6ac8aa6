/- CheckerAddresses: Scalars and Arrays agree with the reference implementation. Condition: a program of bulk at most 1048576. -/
import Derived.Test.YtgimdbflpdmlmaaCheckerScalars
import Derived.Test.YtgimdbflpdmlmaaCkRefArr
import Derived.Test.YtgimdbflpdmlmaaCkRefScalars
import Derived.Deep.QuietTactic
import Derived.Laws.StructEq
import Derived.ChangeKeysEq
namespace Go.Proofs.Ytgimdbflpdmlmaa
set_option maxRecDepth 100000
open Go.RowKit Go.Shelf Go.Proofs.Ytgimdbflpdmlmaa.Ck Go.ChangeShapes Go.WideShapes Go.ChangeAt

theorem Try.guardSym : Try.prog.eqGuardType Try.prog.depth 60 = false := by kernel_rfl
theorem run_neq_sym (x : ByteArray) (y : Int) (w : World) : (binOp .neq 60 (.agg #[.string x, .int .i64 y]) (.agg #[.string x, .int .i64 y])).run Try.prog w = .ok (.bool false) w := by
  have hf : (Try.prog.fieldsOf 60).toList = [{ name := "Name", type := 9, offset := 0, embedded := false, tag := "", pkgPath := "", byteOffset := 0 }, { name := "At", type := 3, offset := 1, embedded := false, tag := "", pkgPath := "", byteOffset := 16 }] := by
    simp only [Program.fieldsOf, Try.underlying60]
  have p1 : ∀ a b : Value, (part 9 #[a, b] 0).run Try.prog w = .ok a w := fun a b => run_part_plain w (by kernel_rfl) rfl
  have p2 : ∀ a b : Value, (part 3 #[a, b] 1).run Try.prog w = .ok b w := fun a b => run_part_plain w (by kernel_rfl) rfl
  have e1 : ∀ a b, (Op.equalIn 9999 3 (.int .i64 a) (.int .i64 b)).run Try.prog w = .ok (a == b) w := fun a b => run_equalIn_int w 9998 3 _ _ a b Try.underlying3
  have e2 : ∀ a b, (Op.equalIn 9999 9 (.string a) (.string b)).run Try.prog w = .ok (a.toList == b.toList) w := fun a b => run_equalIn_string w 9998 9 a b Try.underlying9
  rw [run_neq_struct, run_equalIn_agg w 9999 60 _ _ (by kernel_rfl) (by kernel_rfl), hf]
  simp only [Op.eqFields]
  rw [if_pos (by decide), if_pos (by decide)]
  simp only [Sem.run_bind, p1, p2, e1, e2, Result.andThen, Sem.run_ite, Sem.run_pure]
  simp
theorem symCells_get : ∀ {l : List (ByteArray × Int)} {i : Nat} {t : ByteArray × Int}, l[i]? = some t → (symCells l)[i * 2]? = some (.string t.1) ∧ (symCells l)[i * 2 + 1]? = some (.int .i64 t.2)
  | [], i, t, h => by simp at h
  | x :: l, 0, t, h => by simp at h; subst h; exact ⟨rfl, rfl⟩
  | x :: l, i + 1, t, h => by
    have := symCells_get (l := l) (i := i) (t := t) (by simpa using h)
    rw [show (i + 1) * 2 = i * 2 + 1 + 1 by omega]
    exact this
theorem symCells_length : ∀ l : List (ByteArray × Int), (symCells l).length = l.length * 2
  | [] => rfl
  | x :: l => by
    have := symCells_length l
    unfold symCells at this ⊢
    rw [List.flatMap_cons, List.length_append, this]
    simp; omega
/-- The symbol with number i of a slice of symbols. -/
theorem sym_at {w : World} {base n : Nat} {v : Value} {l : List (ByteArray × Int)} (h : w.ownsRow base 60 2 v n (symCells l)) {i : Nat} (hi : i < n) : ∃ b o cap x y, v = .slice (some ⟨b, o, none⟩) n cap ∧ b < w.heap.size ∧ l[i]? = some (x, y) ∧ w.cell? ⟨b, o + i * 2, none⟩ = some (.string x) ∧ w.cell? ⟨b, o + i * 2 + 1, none⟩ = some (.int .i64 y) := by
  obtain ⟨a, cap, rfl, _, _, h3, h4⟩ := Slc.of_owns h
  rw [symCells_length] at h3
  obtain ⟨⟨x, y⟩, hx⟩ : ∃ t, l[i]? = some t := ⟨_, List.getElem?_eq_getElem (by omega)⟩
  obtain ⟨s1, s2⟩ := symCells_get hx
  rcases h4 with rfl | ⟨b, o, rfl, hb, hc⟩
  · omega
  · exact ⟨b, o, cap, x, y, rfl, hb, hx, hc _ _ s1, by rw [Nat.add_assoc]; exact hc _ _ s2⟩
set_option maxHeartbeats 4000000 in
/-- Two lists that are one. -/
theorem equal_same {w : World} {u v : Value} {l : List ByteArray} (hu : Strs w u l) (hv : Strs w v l) :
    Calls Try.prog 23 #[u, v] w fun e w' => e = .returned (.bool true) ∧ Below w.heap.size w w' := by
  obtain ⟨a1, c1, rfl, k1, k2⟩ := hu.len
  obtain ⟨a2, c2, rfl, k3, k4⟩ := hv.len
  have HU := Keep.mk hu
  have HV := Keep.mk hv
  unfold maxLen at k2 k4
  clear hu hv
  go_enter Try.func23, Try.ntmps23
  have HB0 := Keep.mk (Below.refl w.heap.size w)
  go_wp2_with fail
  go_loopw [13] (fun i wr => ∃ k : Nat, k ≤ l.length ∧ i = .int .i64 k ∧ Keep (Below w.heap.size w wr)) (fun i _ => l.length - (intOf i).toNat)
  case atStart => exact ⟨0, Nat.zero_le _, rfl, HB0⟩
  case round =>
    obtain ⟨k, hk, rfl, HBr⟩ := hrel
    clear HB0
    by_cases hlt : k < l.length
    · have k0 : (0 : Int) ≤ k := by omega
      have k1' : (k : Int) < l.length := by omega
      obtain ⟨x, hx⟩ : ∃ x, l[k]? = some x := ⟨_, List.getElem?_eq_getElem hlt⟩
      obtain ⟨b, o, cap, hv, hb, z0⟩ := (HU.out.below HBr.out (Nat.le_refl _)).get hx
      obtain ⟨b', o', cap', hv', hb', z0'⟩ := (HV.out.below HBr.out (Nat.le_refl _)).get hx
      simp only [Value.slice.injEq, true_and] at hv hv'
      obtain ⟨rfl, rfl⟩ := hv
      obtain ⟨rfl, rfl⟩ := hv'
      have he : (x.toList != x.toList) = false := by simp
      have he2 : (x.toList == x.toList) = true := by simp
      clear hx
      go_wp2_with fail
      go_quiet (fail)
      have HB2 := Keep.mk (below_drewN HBr.out nq)
      go_wp2_with fail
      go_roundw
      case rel => exact ⟨k + 1, by omega, by go_num, HB2⟩
      case measure => simp [intOf]; omega
    · go_wp2_with fail
      go_ret
      exact ⟨rfl, HBr.out⟩

theorem arEnd_none {w w' : World} {n : Nat} {e : Ending} (h : ArEnd w n none e w') : e = .returned (.tuple #[.slice none 0 0, .int .i64 2]) ∧ Below w.heap.size w w' := ⟨h.2, h.1⟩
theorem arEnd_some {w w' : World} {n : Nat} {l : List (ByteArray × Int)} {e : Ending} (h : ArEnd w n (some l) e w') : ∃ a c, e = .returned (.tuple #[.slice a n c, .int .i64 0]) ∧ w'.ownsRow w.heap.size 60 2 (.slice a n c) n (symCells l) ∧ Below w.heap.size w w' := by
  obtain ⟨hb, v, he, hv⟩ := h
  obtain ⟨a, c, rfl⟩ := ownsRow_slice hv
  exact ⟨a, c, he, hv, hb⟩
theorem sym_low {w w' : World} {base n : Nat} {v : Value} {l : List (ByteArray × Int)} (h : w.ownsRow base 60 2 v n (symCells l)) (hb : Below w.heap.size w w') : w'.ownsRow base 60 2 v n (symCells l) :=
  World.ownsRow.kept h (grown_none hb) (by cases hq : Value.ownBlock v <;> simp)
set_option maxHeartbeats 16000000 in
/-- What stands behind the two lists of addresses. -/
theorem checkerAddresses_any {w : World} {vs rs fs : Value} {p : Pr} (hp : PrAt w vs rs fs p) (hz : sizeP p ≤ 1000000000) (oc os a : Int) :
    Calls Try.prog 8 #[.agg #[vs, rs, fs], .agg #[.int .i64 oc, .int .i64 os, .int .i64 a]] w fun e w' => e = .returned (.bool true) ∧ Below w.heap.size w w' := by
  have HP := Keep.mk hp
  obtain ⟨h1, h2, h3⟩ := hp
  obtain ⟨a1, c1, rfl, k1, k2⟩ := h1.len
  obtain ⟨a2, c2, rfl, k3, k4⟩ := h2.len
  obtain ⟨a3, c3, rfl, k5, k6⟩ := h3.len
  unfold maxLen at k2 k4 k6
  have HZ := Keep.mk hz
  have HAL : Keep (p.arrays.length ≤ sizeP p) := ⟨by unfold sizeP; omega⟩
  clear h1 h2 h3 hz
  have hXY : ∃ w0, w0 = ((w.alloc (.cells #[.slice a1 p.vars.length c1, .slice a2 p.arrays.length c2, .slice a3 p.funcs.length c3] 26)).alloc (.cells #[.int .i64 oc, .int .i64 os, .int .i64 a] 55)) := ⟨_, rfl⟩
  obtain ⟨w0, hw0⟩ := hXY
  have hb0 : Below w.heap.size w w0 := by rw [hw0]; exact ((Below.refl _ _).alloc (Nat.le_refl _) _).alloc (by simp) _
  have hX : w0.heap[w.heap.size]? = some (.cells #[.slice a1 p.vars.length c1, .slice a2 p.arrays.length c2, .slice a3 p.funcs.length c3] 26 (0, 0)) := by
    rw [hw0]
    exact (((Below.refl _ (w.alloc (.cells #[.slice a1 p.vars.length c1, .slice a2 p.arrays.length c2, .slice a3 p.funcs.length c3] 26))).alloc (Nat.le_refl _) _).block w.heap.size (by simp)).trans (heap_alloc_new w _)
  have hY : w0.heap[w.heap.size + 1]? = some (.cells #[.int .i64 oc, .int .i64 os, .int .i64 a] 55 (0, 0)) := by
    rw [hw0]
    have := heap_alloc_new (w.alloc (.cells #[.slice a1 p.vars.length c1, .slice a2 p.arrays.length c2, .slice a3 p.funcs.length c3] 26)) (.cells #[.int .i64 oc, .int .i64 os, .int .i64 a] 55)
    rwa [World.size_alloc] at this
  have HS : Keep (∀ w', Below w0.heap.size w0 w' → (((w'.cell? ⟨w.heap.size, 0, none⟩ = some (.slice a1 p.vars.length c1) ∧ w'.cell? ⟨w.heap.size, 1, none⟩ = some (.slice a2 p.arrays.length c2)) ∧ w'.cell? ⟨w.heap.size, 2, none⟩ = some (.slice a3 p.funcs.length c3)) ∧
      ((w'.cell? ⟨w.heap.size + 1, 0, none⟩ = some (.int .i64 oc) ∧ w'.cell? ⟨w.heap.size + 1, 1, none⟩ = some (.int .i64 os)) ∧ w'.cell? ⟨w.heap.size + 1, 2, none⟩ = some (.int .i64 a)) ∧ w.heap.size + 1 < w'.heap.size) ∧ Below w0.heap.size w0 w') := ⟨fun w' hb => by
    have e := (hb.block _ (Array.getElem?_eq_some_iff.1 hX).1).trans hX
    have e' := (hb.block _ (Array.getElem?_eq_some_iff.1 hY).1).trans hY
    exact ⟨⟨⟨⟨by simp [World.cell?, e], by simp [World.cell?, e]⟩, by simp [World.cell?, e]⟩, ⟨⟨by simp [World.cell?, e'], by simp [World.cell?, e']⟩, by simp [World.cell?, e']⟩, (Array.getElem?_eq_some_iff.1 e').1⟩, hb⟩⟩
  have HB0 := Keep.mk hb0
  have HW0 := Keep.mk hw0
  have HPA : Keep (∀ w', Below w0.heap.size w0 w' → PrAt w' (.slice a1 p.vars.length c1) (.slice a2 p.arrays.length c2) (.slice a3 p.funcs.length c3) p) := ⟨fun w' hb => HP.out.below (hb0.trans (hb.mono hb0.size))⟩
  clear hX hY hb0 hw0 HP
  go_enter Try.func8, Try.ntmps8
  go_upto_region 1 with (fail)
  rw [← HW0.out]
  clear HW0
  go_wp2_with fail
  refine (alive_any _).mono ?_
  rintro _ w1 ⟨rfl, hb1⟩
  have HB1 := Keep.mk hb1
  clear hb1
  have HSz := Keep.mk (sizeP_any (HPA.out _ HB1.out) HZ.out)
  obtain ⟨⟨⟨⟨p0, p1⟩, p2⟩, ⟨⟨o0, o1⟩, o2⟩, pl⟩, _⟩ := HS.out _ HB1.out
  have pl0 : w.heap.size < w1.heap.size := by omega
  go_wp2_with fail
  refine HSz.out.mono ?_
  rintro _ w2 ⟨rfl, hb2⟩
  have HB2 := Keep.mk (HB1.out.trans (hb2.mono HB1.out.size))
  clear hb2 HB1 HSz p0 p1 p2 o0 o1 o2 pl pl0
  by_cases h4 : sizeP p ≤ 400
  · have hq : ¬ (400 : Int) < (sizeP p : Int) := by omega
    have HF := Keep.mk (fits_of_size h4)
    have hal : p.arrays.length ≤ 400 := by have := HAL.out; omega
    clear h4 HAL
    generalize sizeP p = sp at *
    have HA := Keep.mk (arrays_any (HPA.out _ HB2.out) (by omega) oc os a)
    obtain ⟨⟨⟨⟨p0, p1⟩, p2⟩, ⟨⟨o0, o1⟩, o2⟩, pl⟩, _⟩ := HS.out _ HB2.out
    have pl0 : w.heap.size < w2.heap.size := by omega
    go_wp2_with fail
    refine HA.out.mono ?_
    rintro e w3 he
    clear p0 p1 p2 o0 o1 o2 pl pl0
    cases hpl : placeC a p.arrays with
    | none =>
      rw [hpl] at he
      obtain ⟨rfl, hb3⟩ := arEnd_none he
      have HB3 := Keep.mk (HB2.out.trans (hb3.mono HB2.out.size))
      have HA' := refArrays_any (HPA.out _ HB3.out) (by omega) oc os a
      rw [hpl] at HA'
      have HR := Keep.mk HA'
      obtain ⟨⟨⟨⟨p0, p1⟩, p2⟩, ⟨⟨o0, o1⟩, o2⟩, pl⟩, _⟩ := HS.out _ HB3.out
      have pl0 : w.heap.size < w3.heap.size := by omega
      clear he hb3 HB2 HA HA' hpl
      go_wp2_with fail
      refine HR.out.mono ?_
      rintro e w4 he
      obtain ⟨rfl, hb4⟩ := arEnd_none he
      have HB4 := Keep.mk (HB3.out.trans (hb4.mono HB3.out.size))
      clear p0 p1 p2 o0 o1 o2 pl pl0 he hb4 HB3 HR
      go_wp2_with fail
      refine wp_loop_rounds 1 ?_
      rw [rounds_succ]
      go_wp2_with fail
      go_upto_region 15 with (fail)
      have HC15 : Keep (∀ wx, Below w4.heap.size w4 wx → Calls Try.prog 15 #[.agg #[.slice a1 p.vars.length c1, .slice a2 p.arrays.length c2, .slice a3 p.funcs.length c3]] wx fun e w' => ∃ v, e = .returned v ∧ OwnStrs wx.heap.size w' v (scalarsL p) ∧ Below wx.heap.size wx w') := ⟨fun wx hx => scalars_any (HPA.out _ (HB4.out.trans (hx.mono HB4.out.size))) HF.out⟩
      have HC24 : Keep (∀ wx, Below w4.heap.size w4 wx → Calls Try.prog 24 #[.agg #[.slice a1 p.vars.length c1, .slice a2 p.arrays.length c2, .slice a3 p.funcs.length c3]] wx fun e w' => ∃ v, e = .returned v ∧ OwnStrs wx.heap.size w' v (scalarsL p) ∧ Below wx.heap.size wx w') := ⟨fun wx hx => refScalars_any (HPA.out _ (HB4.out.trans (hx.mono HB4.out.size))) HF.out⟩
      have HSK : Keep (∀ w', Below w4.heap.size w4 w' → ((w'.cell? ⟨w.heap.size, 0, none⟩ = some (.slice a1 p.vars.length c1) ∧ w'.cell? ⟨w.heap.size, 1, none⟩ = some (.slice a2 p.arrays.length c2)) ∧ w'.cell? ⟨w.heap.size, 2, none⟩ = some (.slice a3 p.funcs.length c3)) ∧ Below w4.heap.size w4 w') := ⟨fun w' hx => ⟨(HS.out _ (HB4.out.trans (hx.mono HB4.out.size))).1.1, hx⟩⟩
      have HBF := Keep.mk (HB0.out.trans (HB4.out.mono HB0.out.size))
      clear HS HPA HF HB0 HB4
      generalize scalarsL p = S at *
      go_region_held3 (fun w' => ((w'.cell? ⟨w.heap.size, 0, none⟩ = some (.slice a1 p.vars.length c1) ∧ w'.cell? ⟨w.heap.size, 1, none⟩ = some (.slice a2 p.arrays.length c2)) ∧ w'.cell? ⟨w.heap.size, 2, none⟩ = some (.slice a3 p.funcs.length c3)) ∧ Below w4.heap.size w4 w')
        (first | with_reducible exact HSK.out _ (Below.refl w4.heap.size w4).drew | with_reducible exact HSK.out _ (Below.refl w4.heap.size w4) | with_reducible exact HSK.out _ (held_onS hb15 (And.right (by assumption))) | with_reducible exact HSK.out _ (held_onS hb24 (And.right (by assumption))) | with_reducible exact HSK.out _ (held_onS hb23 (And.right (by assumption))) | with_reducible assumption)
        (first
          | (go_at_call 15; (with_reducible refine (HC15.out _ ?_).mono ?_); (exact And.right (by assumption)); rintro e w15 ⟨v15, rfl, hv15, hb15⟩)
          | (go_at_call 24; (with_reducible refine (HC24.out _ ?_).mono ?_); (exact And.right (by assumption)); rintro e w24 ⟨v24, rfl, hv24, hb24⟩)
          | (go_at_call 23; (with_reducible refine (equal_same (l := S) ?_ ?_).mono ?_); (first | with_reducible exact hv15.strs | with_reducible exact hv15.strs.below hb24 (Nat.le_refl _)); (first | with_reducible exact hv24.strs | with_reducible exact hv24.strs.below hb15 (Nat.le_refl _)); rintro e w23 ⟨rfl, hb23⟩))
      all_goals (have hfin := And.right (by assumption : ((w23.cell? ⟨w.heap.size, 0, none⟩ = some (.slice a1 p.vars.length c1) ∧ w23.cell? ⟨w.heap.size, 1, none⟩ = some (.slice a2 p.arrays.length c2)) ∧ w23.cell? ⟨w.heap.size, 2, none⟩ = some (.slice a3 p.funcs.length c3)) ∧ Below w4.heap.size w4 w23); have HFI := Keep.mk (HBF.out.trans (hfin.mono HBF.out.size)); clear hfin hb23 hb24 hb15 hv15 hv24; go_wp2_with fail; go_ret; exact ⟨rfl, HFI.out⟩)
    | some l =>
      rw [hpl] at he
      obtain ⟨b1, d1, rfl, hv1, hb3⟩ := arEnd_some he
      have HB3 := Keep.mk (HB2.out.trans (hb3.mono HB2.out.size))
      have HV1 := Keep.mk hv1
      have HA' := refArrays_any (HPA.out _ HB3.out) (by omega) oc os a
      rw [hpl] at HA'
      have HR := Keep.mk HA'
      obtain ⟨⟨⟨⟨p0, p1⟩, p2⟩, ⟨⟨o0, o1⟩, o2⟩, pl⟩, _⟩ := HS.out _ HB3.out
      have pl0 : w.heap.size < w3.heap.size := by omega
      clear he hb3 HB2 HA HA' hpl hv1
      go_wp2_with fail
      refine HR.out.mono ?_
      rintro e w4 he
      obtain ⟨b2, d2, rfl, hv2, hb4⟩ := arEnd_some he
      have HB4 := Keep.mk (HB3.out.trans (hb4.mono HB3.out.size))
      have HV3 := Keep.mk (sym_low HV1.out hb4)
      have HV4 := Keep.mk hv2
      clear p0 p1 p2 o0 o1 o2 pl pl0 he hb4 HB3 HR HV1 hv2
      go_wp2_with fail
      go_loopw [39] (fun i wr => ∃ k : Nat, k ≤ p.arrays.length ∧ i = .int .i64 k ∧ Keep (Below w4.heap.size w4 wr)) (fun i _ => p.arrays.length - (intOf i).toNat)
      case atStart => exact ⟨0, Nat.zero_le _, rfl, ⟨Below.refl _ _⟩⟩
      case round =>
        obtain ⟨k, hk, rfl, HBr⟩ := hrel
        by_cases hlt : k < p.arrays.length
        · have k0 : (0 : Int) ≤ k := by omega
          have k1' : (k : Int) < p.arrays.length := by omega
          obtain ⟨gb, go, gc, x, y, hv, hb, hx, z0, z1⟩ := sym_at (sym_low HV3.out HBr.out) hlt
          obtain ⟨gb', go', gc', x', y', hv', hb', hx', z0', z1'⟩ := sym_at (sym_low HV4.out HBr.out) hlt
          rw [hx] at hx'
          simp only [Option.some.injEq, Prod.mk.injEq] at hx'
          obtain ⟨rfl, rfl⟩ := hx'
          simp only [Value.slice.injEq, true_and] at hv hv'
          obtain ⟨rfl, rfl⟩ := hv
          obtain ⟨rfl, rfl⟩ := hv'
          have hne := run_neq_sym x y
          have hgd := fun (wx : World) => run_eqGuard_agg wx .neq 60 (.tmp 45) (.tmp 49) #[.string x, .int .i64 y] #[.string x, .int .i64 y] Try.guardSym
          clear hx
          go_wp2_with fail
          go_quiet (fail)
          have HB2' := Keep.mk (below_drewN HBr.out nq)
          clear hne hgd
          go_wp2_with fail
          go_roundw
          case rel => exact ⟨k + 1, by omega, by go_num, HB2'⟩
          case measure => simp [intOf]; omega
        · have HB5 := Keep.mk (HB4.out.trans (HBr.out.mono HB4.out.size))
          clear HB4 HBr HV3 HV4
          go_upto_region 15 with (fail)
          have HC15 : Keep (∀ wx, Below wr.heap.size wr wx → Calls Try.prog 15 #[.agg #[.slice a1 p.vars.length c1, .slice a2 p.arrays.length c2, .slice a3 p.funcs.length c3]] wx fun e w' => ∃ v, e = .returned v ∧ OwnStrs wx.heap.size w' v (scalarsL p) ∧ Below wx.heap.size wx w') := ⟨fun wx hx => scalars_any (HPA.out _ (HB5.out.trans (hx.mono HB5.out.size))) HF.out⟩
          have HC24 : Keep (∀ wx, Below wr.heap.size wr wx → Calls Try.prog 24 #[.agg #[.slice a1 p.vars.length c1, .slice a2 p.arrays.length c2, .slice a3 p.funcs.length c3]] wx fun e w' => ∃ v, e = .returned v ∧ OwnStrs wx.heap.size w' v (scalarsL p) ∧ Below wx.heap.size wx w') := ⟨fun wx hx => refScalars_any (HPA.out _ (HB5.out.trans (hx.mono HB5.out.size))) HF.out⟩
          have HSK : Keep (∀ w', Below wr.heap.size wr w' → ((w'.cell? ⟨w.heap.size, 0, none⟩ = some (.slice a1 p.vars.length c1) ∧ w'.cell? ⟨w.heap.size, 1, none⟩ = some (.slice a2 p.arrays.length c2)) ∧ w'.cell? ⟨w.heap.size, 2, none⟩ = some (.slice a3 p.funcs.length c3)) ∧ Below wr.heap.size wr w') := ⟨fun w' hx => ⟨(HS.out _ (HB5.out.trans (hx.mono HB5.out.size))).1.1, hx⟩⟩
          have HBF := Keep.mk (HB0.out.trans (HB5.out.mono HB0.out.size))
          clear HS HPA HF HB0 HB5
          generalize scalarsL p = S at *
          go_region_held3 (fun w' => ((w'.cell? ⟨w.heap.size, 0, none⟩ = some (.slice a1 p.vars.length c1) ∧ w'.cell? ⟨w.heap.size, 1, none⟩ = some (.slice a2 p.arrays.length c2)) ∧ w'.cell? ⟨w.heap.size, 2, none⟩ = some (.slice a3 p.funcs.length c3)) ∧ Below wr.heap.size wr w')
            (first | with_reducible exact HSK.out _ (Below.refl wr.heap.size wr).drew | with_reducible exact HSK.out _ (Below.refl wr.heap.size wr) | with_reducible exact HSK.out _ (held_onS hb15 (And.right (by assumption))) | with_reducible exact HSK.out _ (held_onS hb24 (And.right (by assumption))) | with_reducible exact HSK.out _ (held_onS hb23 (And.right (by assumption))) | with_reducible assumption)
            (first
              | (go_at_call 15; (with_reducible refine (HC15.out _ ?_).mono ?_); (exact And.right (by assumption)); rintro e w15 ⟨v15, rfl, hv15, hb15⟩)
              | (go_at_call 24; (with_reducible refine (HC24.out _ ?_).mono ?_); (exact And.right (by assumption)); rintro e w24 ⟨v24, rfl, hv24, hb24⟩)
              | (go_at_call 23; (with_reducible refine (equal_same (l := S) ?_ ?_).mono ?_); (first | with_reducible exact hv15.strs | with_reducible exact hv15.strs.below hb24 (Nat.le_refl _)); (first | with_reducible exact hv24.strs | with_reducible exact hv24.strs.below hb15 (Nat.le_refl _)); rintro e w23 ⟨rfl, hb23⟩))
          all_goals (have hfin := And.right (by assumption : ((w23.cell? ⟨w.heap.size, 0, none⟩ = some (.slice a1 p.vars.length c1) ∧ w23.cell? ⟨w.heap.size, 1, none⟩ = some (.slice a2 p.arrays.length c2)) ∧ w23.cell? ⟨w.heap.size, 2, none⟩ = some (.slice a3 p.funcs.length c3)) ∧ Below wr.heap.size wr w23); have HFI := Keep.mk (HBF.out.trans (hfin.mono HBF.out.size)); clear hfin hb23 hb24 hb15 hv15 hv24; go_wp2_with fail; go_ret; exact ⟨rfl, HFI.out⟩)
  · have hq : (400 : Int) < (sizeP p : Int) := by omega
    have HBE := Keep.mk (HB0.out.trans (HB2.out.mono HB0.out.size))
    go_wp2_with fail
    go_ret
    exact ⟨rfl, HBE.out⟩

theorem CheckerAddresses_walk : LawWalkU 8 Try.f8 := by
  intro H enc W base args ds ps hval hA hsz hk _
  rw [Try.params8] at hA hval hsz
  obtain ⟨v0, vs0, d0, ds0, p0, q0, hargs, rfl, rfl, h0, r0⟩ := trodAll_cons hA
  obtain ⟨v1, vs1, d1, ds1, p1, q1, rfl, rfl, rfl, h1, r1⟩ := trodAll_cons r0
  obtain ⟨rfl, rfl, rfl⟩ := trodAll_nil r1
  obtain rfl : args = #[v0, v1] := by cases args; simp_all
  obtain ⟨vs, rs, fs, p, rfl, hp, _, hb⟩ := open_prog (hval 0 26 v0 rfl rfl) h0 (bulk_each hk (by simp))
  obtain ⟨c0, c1, c2, y0, y1, y2, m, rfl, rfl, rfl, e0, e1, e2⟩ := Go.Joins.open_agg3 Try.underlying55 (by kernel_rfl) (by kernel_rfl) (hval 1 55 v1 rfl rfl) h1
  obtain ⟨k0, f0, _, _⟩ := DataW.trod_int Try.underlying3 e0
  obtain ⟨k1, f1, _, _⟩ := DataW.trod_int Try.underlying3 e1
  obtain ⟨k2, f2, _, _⟩ := DataW.trod_int Try.underlying3 e2
  simp only [List.cons.injEq, and_true] at f0 f1 f2
  subst f0; subst f1; subst f2
  exact checkerAddresses_any hp (sizeP_bulk hb) _ _ _
end Go.Proofs.Ytgimdbflpdmlmaa
namespace Go.Proofs.Ytgimdbflpdmlmaa
open Go.ChangeShapes Go.WideShapes Go.ChangeAt Go.RowKit
set_option maxRecDepth 100000 in
theorem CheckerAddresses_lifted (os : Os) (started : os.Started) (H : Type) (enc : TypeId × Value → H) (F : Stop.Interp) :
    ReturnsInHanded {} Try.checked os 8 .any ((Rows.OpenSpec.upto Rows.checkerAddressesSpec).pre6 enc Try.prog Try.f8 Rows.checkerAddressesUptoRow.domain false) (((Rows.OpenSpec.upto Rows.checkerAddressesSpec).at F).post enc Try.prog Try.f8 false true false false) := by
  refine returns_upto (C := Try.checked) (s := Rows.OpenSpec.upto Rows.checkerAddressesSpec) (k := Rows.uptoSmall) rfl own started (by kernel_rfl) Try.func8
    (OpenSpec.witness (enc := enc) (C := Try.checked) (s := Rows.OpenSpec.upto Rows.checkerAddressesSpec) (k := Rows.uptoSmall) rfl false ⟨#[], #[.agg #[.slice none 0 0, .slice none 0 0, .slice none 0 0], .agg #[.int .i64 0, .int .i64 0, .int .i64 0]], []⟩ 8 (by kernel_rfl) (by kernel_rfl) (by kernel_rfl)
      (x := ([.agg [.nil, .nil, .nil], .agg [.lit (.int .i64 0), .lit (.int .i64 0), .lit (.int .i64 0)]], [], [])) (by kernel_rfl) rfl (by kernel_rfl)) ?_
  intro W base args ds gs before hval hW hk hsz hsh
  exact law_contract_upto (s := Rows.checkerAddressesSpec) (by kernel_rfl) (by kernel_rfl) ⟨rfl, fun H ds h => by rw [Try.params8] at h; match ds, h with | [d0, d1], _ => rfl⟩ CheckerAddresses_walk W base args ds gs before hval hW hk hsz hsh
theorem CheckerAddresses_proved : Rows.CheckerAddressesUptoSaid :=
  OpenClaim.holds_of_cond 8 Try.f8 rfl rfl rfl rfl rfl rfl rfl ⟨rfl, rfl, rfl, rfl, rfl⟩ rfl rfl rfl rfl rfl (by kernel_rfl) Try.func8 (by kernel_rfl)
    (of_decide_eq_true (by kernel_rfl)) (by unfold Func.isWrapper; first | (rw [if_pos (by decide +kernel)]; kernel_rfl) | (rw [if_neg (by decide +kernel)]; exact ⟨rfl, rfl⟩))
    (fun os started H enc _ F => CheckerAddresses_lifted os started H enc F)
end Go.Proofs.Ytgimdbflpdmlmaa
