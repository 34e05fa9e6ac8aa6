/- steleref34.Same compares two lists of segments. No condition. -/
import Derived.Test.YtgoipkilpmjecaaSegs
import Derived.Deep.QuietTactic
import Derived.BigQuiet
import Derived.Laws.StructEq
import Derived.ChangeKeysEq
namespace Go.Proofs.Ytgoipkilpmjecaa
open Go.RowKit Go.Shelf Go.Proofs.Ytgoipkilpmjecaa.Sparse

theorem eq_seg (x y : Seg) : (x.1 == y.1 && (mkS x.2).toList == (mkS y.2).toList) = decide (x = y) := by
  rw [toList_beq, Bool.eq_iff_iff]
  simp only [Bool.and_eq_true, beq_iff_eq, decide_eq_true_eq]
  exact ⟨fun ⟨h1, h2⟩ => Prod.ext h1 (mkS_inj h2), fun h => by rw [h]; exact ⟨rfl, rfl⟩⟩
theorem Try.guardSeg : Try.prog.eqGuardType Try.prog.depth 45 = false := by kernel_rfl
theorem run_neq_seg (x y : Seg) (w : World) : (binOp .neq 45 (.agg #[.int .i64 x.1, .string (mkS x.2)]) (.agg #[.int .i64 y.1, .string (mkS y.2)])).run Try.prog w = .ok (.bool (!decide (x = y))) w := by
  have hf : (Try.prog.fieldsOf 45).toList = [{ name := "Length", type := 3, offset := 0, embedded := false, tag := "", pkgPath := "", byteOffset := 0 }, { name := "Data", type := 9, offset := 1, embedded := false, tag := "", pkgPath := "", byteOffset := 8 }] := by
    simp only [Program.fieldsOf, Try.underlying45]
  have p1 : ∀ a b : Value, (part 3 #[a, b] 0).run Try.prog w = .ok a w := fun a b => run_part_plain w (by kernel_rfl) rfl
  have p2 : ∀ a b : Value, (part 9 #[a, b] 1).run Try.prog w = .ok b w := fun a b => run_part_plain w (by kernel_rfl) rfl
  have e1 : ∀ a b, (Op.equalIn 9999 3 (.int .i64 a) (.int .i64 b)).run Try.prog w = .ok (a == b) w := fun a b => run_equalIn_int w 9998 3 _ _ a b Try.underlying3
  have e2 : ∀ a b, (Op.equalIn 9999 9 (.string a) (.string b)).run Try.prog w = .ok (a.toList == b.toList) w := fun a b => run_equalIn_string w 9998 9 a b Try.underlying9
  rw [run_neq_struct, run_equalIn_agg w 9999 45 _ _ (by kernel_rfl) (by kernel_rfl), hf, ← eq_seg]
  simp only [Op.eqFields]
  rw [if_pos (by decide), if_pos (by decide)]
  simp only [Sem.run_bind, p1, p2, e1, e2, Result.andThen, Sem.run_ite, Sem.run_pure]
  cases h1 : (x.1 == y.1) <;> cases h2 : ((mkS x.2).toList == (mkS y.2).toList) <;> simp

set_option maxHeartbeats 400000 in
theorem segSame_any (u v : Value) (l m : List Seg) (w : World) (hu : Segs w u l) (hv : Segs w v m) :
    Calls Try.prog 13 #[u, v] w fun e w' => e = .returned (.bool (decide (l = m))) ∧ Below w.heap.size w w' := by
  obtain ⟨au, cu, rfl, hu1, hu2, hu3⟩ := hu.parts
  obtain ⟨av, cv, rfl, hv1, hv2, hv3⟩ := hv.parts
  have HU := Keep.mk hu3
  have HV := Keep.mk hv3
  unfold maxLen at hu2 hv2
  clear hu hv hu3 hv3
  by_cases hlen : l.length = m.length
  · have hb : ((l.length : Int) != (m.length : Int)) = false := by simp [hlen]
    have HL := Keep.mk hlen
    clear hlen
    go_enter Try.func13, Try.ntmps13
    go_wp2
    go_loopw [5] (fun i wr => ∃ j : Nat, j ≤ l.length ∧ i = .int .i64 j ∧ Keep (l.take j = m.take j) ∧ Below w.heap.size w wr) (fun i _ => l.length - (intOf i).toNat)
    case atStart => exact ⟨0, Nat.zero_le _, rfl, ⟨rfl⟩, Below.refl _ _⟩
    case round =>
      obtain ⟨j, hj, rfl, hT, hbr⟩ := hrel
      by_cases hlt : j < l.length
      · obtain ⟨x, hx⟩ : ∃ x, l[j]? = some x := ⟨_, List.getElem?_eq_getElem hlt⟩
        obtain ⟨y, hy⟩ : ∃ y, m[j]? = some y := ⟨_, List.getElem?_eq_getElem (by have := HL.out; omega)⟩
        obtain ⟨b1, o1, rfl, hb1, hx1, hx2⟩ := HU.out j x hx
        obtain ⟨b2, o2, rfl, hb2, hy1, hy2⟩ := HV.out j y hy
        have hx1' := (hbr.cell (p := ⟨b1, o1 + j * 2, none⟩) hb1).trans hx1
        have hx2' := (hbr.cell (p := ⟨b1, o1 + j * 2 + 1, none⟩) hb1).trans hx2
        have hy1' := (hbr.cell (p := ⟨b2, o2 + j * 2, none⟩) hb2).trans hy1
        have hy2' := (hbr.cell (p := ⟨b2, o2 + j * 2 + 1, none⟩) hb2).trans hy2
        have hjm : j < m.length := by have := HL.out; omega
        clear hx1 hx2 hy1 hy2
        go_wp2
        have hne := run_neq_seg x y
        have hgd := fun (wx : World) => run_eqGuard_agg wx .neq 45 (.tmp 20) (.tmp 24) #[.int .i64 x.1, .string (mkS x.2)] #[.int .i64 y.1, .string (mkS y.2)] Try.guardSeg
        have HX := Keep.mk hx
        have HY := Keep.mk hy
        clear hx hy
        by_cases he : x = y
        · rw [decide_eq_true he] at hne
          go_quiet (fail)
          go_wp2
          go_round
          case rel => exact ⟨j + 1, by omega, by go_num, ⟨by rw [List.take_add_one, List.take_add_one, hT.out, HX.out, HY.out, he]⟩, below_drewN hbr _⟩
          case measure => simp [intOf]; omega
        · rw [decide_eq_false he] at hne
          go_quiet (fail)
          go_wp2
          go_ret
          refine ⟨ret_bool ?_, below_drewN hbr _⟩
          symm
          rw [decide_eq_false_iff_not]
          intro e
          have := HX.out
          rw [e, HY.out] at this
          cases this
          exact he rfl
      · go_wp2
        go_ret
        refine ⟨ret_bool ?_, hbr⟩
        symm
        rw [decide_eq_true_iff]
        have := hT.out
        rw [List.take_of_length_le (by omega), List.take_of_length_le (by have := HL.out; omega)] at this
        exact this
  · have hb : ((l.length : Int) != (m.length : Int)) = true := by simp; omega
    go_enter Try.func13, Try.ntmps13
    go_wp2
    go_ret
    refine ⟨ret_bool ?_, Below.refl _ _⟩
    symm
    rw [decide_eq_false_iff_not]
    intro e
    exact hlen (by rw [e])
end Go.Proofs.Ytgoipkilpmjecaa
