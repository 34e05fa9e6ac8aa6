/- Two equal stores are told to be the same. No condition. -/
import Derived.Test.YtomlknjpaielgaaStoreSame
namespace Go.Proofs.Ytomlknjpaielgaa
set_option maxRecDepth 100000
open Go.RowKit Go.Shelf Go.Proofs.Ytomlknjpaielgaa.Store

def chkA (x : Chk) : Value := .agg #[.string x.1, .int .i64 x.2.1, .int .i64 x.2.2.1, .int .i64 x.2.2.2]
theorem run_neq_chk (x : Chk) (w : World) : (binOp .neq 44 (chkA x) (chkA x)).run Try.prog w = .ok (.bool false) w := by
  have hf : (Try.prog.fieldsOf 44).toList = [{ name := "Digest", type := 9, offset := 0, embedded := false, tag := "", pkgPath := "", byteOffset := 0 }, { name := "Extent", type := 42, offset := 1, embedded := false, tag := "", pkgPath := "", byteOffset := 16 }] := by
    simp only [Program.fieldsOf, Try.underlying44]
  have p1 : (Go.part 9 #[.string x.1, .int .i64 x.2.1, .int .i64 x.2.2.1, .int .i64 x.2.2.2] 0).run Try.prog w = .ok (.string x.1) w := run_part_plain w (by kernel_rfl) rfl
  have p2 : (Go.part 42 #[.string x.1, .int .i64 x.2.1, .int .i64 x.2.2.1, .int .i64 x.2.2.2] 1).run Try.prog w = .ok (extA x.2) w := by kernel_rfl
  have e1 : (Op.equalIn 9999 9 (.string x.1) (.string x.1)).run Try.prog w = .ok (x.1.toList == x.1.toList) w := run_equalIn_string w 9998 9 x.1 x.1 Try.underlying9
  have e2 : (Op.equalIn 9999 42 (extA x.2) (extA x.2)).run Try.prog w = .ok (decide (x.2 = x.2)) w := run_equalIn_ext x.2 x.2 w 9997
  rw [chkA, run_neq_struct, run_equalIn_agg w 9999 44 _ _ (by kernel_rfl) (by kernel_rfl), hf]
  simp only [Op.eqFields]
  rw [if_pos (by decide), if_pos (by decide)]
  simp only [Sem.run_bind, p1, p2, e1, e2, Result.andThen, Sem.run_ite, Sem.run_pure]
  simp

set_option maxHeartbeats 4000000 in
theorem sameStore_any {w : World} {u v : Value} {l : List Chk} {ses : Int} {st : ByteArray} (hu : Chks w u l) (hv : Chks w v l) :
    Calls Try.prog 15 #[.agg #[u, .int .i64 ses, .string st], .agg #[v, .int .i64 ses, .string st]] w fun e w' => e = .returned (.bool true) ∧ Below w.heap.size w w' := by
  obtain ⟨au, cu, rfl, hu1, hu2, hu3⟩ := hu.parts
  obtain ⟨av, cv, rfl, hv1, hv2, hv3⟩ := hv.parts
  have HU := Keep.mk hu3
  have HV := Keep.mk hv3
  unfold maxLen at hu2 hv2
  clear hu hv hu3 hv3
  have hss : (ses != ses) = false := by simp
  have hst : (st.toList != st.toList) = false := by simp
  have hll : ((l.length : Int) != (l.length : Int)) = false := by simp
  obtain ⟨wa, hwa⟩ : ∃ wa, wa = (w.alloc (.cells #[.slice au l.length cu, .int .i64 ses, .string st] 27)).alloc (.cells #[.slice av l.length cv, .int .i64 ses, .string st] 27) := ⟨_, rfl⟩
  have hA1 : Keep (Arr wa w.heap.size 27 (storeCells (.slice au l.length cu) ses st)) := ⟨by rw [hwa]; exact (Arr.new w _ (storeCells (.slice au l.length cu) ses st)).alloc _⟩
  have hA2 : Keep (Arr wa (w.heap.size + 1) 27 (storeCells (.slice av l.length cv) ses st)) := ⟨by
    have := Arr.new (w.alloc (.cells #[.slice au l.length cu, .int .i64 ses, .string st] 27)) 27 (storeCells (.slice av l.length cv) ses st)
    rw [World.size_alloc] at this
    rw [hwa]; exact this⟩
  have hBa : Keep (Below w.heap.size w wa) := ⟨by rw [hwa]; exact ((Below.refl _ _).alloc (Nat.le_refl _) _).alloc (by simp) _⟩
  go_enter Try.func15, Try.ntmps15
  go_upto_region 1 with (fail)
  rw [← hwa]
  clear hwa
  have a0 := hA1.out.cell 0
  have a1 := hA1.out.cell 1
  have a2 := hA1.out.cell 2
  have b0 := hA2.out.cell 0
  have b1 := hA2.out.cell 1
  have b2 := hA2.out.cell 2
  simp only [storeCells, List.getElem?_cons_zero, List.getElem?_cons_succ] at a0 a1 a2 b0 b1 b2
  go_wp2
  clear a1 a2 b1 b2 hss hst hll a0 b0
  go_loopw [5] (fun i wr => ∃ j : Nat, j ≤ l.length ∧ i = .int .i64 j ∧ Below wa.heap.size wa wr) (fun i _ => l.length - (intOf i).toNat)
  case atStart => exact ⟨0, Nat.zero_le _, rfl, Below.refl _ _⟩
  case round =>
    obtain ⟨j, hj, rfl, hbr⟩ := hrel
    have a0 := (hA1.out.below hbr hA1.out.lt).cell 0
    have b0 := (hA2.out.below hbr hA2.out.lt).cell 0
    simp only [storeCells, List.getElem?_cons_zero] at a0 b0
    have HB := Keep.mk (hBa.out.trans (hbr.mono hBa.out.size))
    by_cases hlt : j < l.length
    · obtain ⟨x, hx⟩ : ∃ x, l[j]? = some x := ⟨_, List.getElem?_eq_getElem hlt⟩
      obtain ⟨p1, o1, rfl, hb1, x0, x1, x2, x3⟩ := HU.out j x hx
      obtain ⟨p2, o2, rfl, hb2, y0, y1, y2, y3⟩ := HV.out j x hx
      have x0' := (HB.out.cell (p := ⟨p1, o1 + j * 4, none⟩) hb1).trans x0
      have x1' := (HB.out.cell (p := ⟨p1, o1 + j * 4 + 1, none⟩) hb1).trans x1
      have x2' := (HB.out.cell (p := ⟨p1, o1 + j * 4 + 2, none⟩) hb1).trans x2
      have x3' := (HB.out.cell (p := ⟨p1, o1 + j * 4 + 3, none⟩) hb1).trans x3
      have y0' := (HB.out.cell (p := ⟨p2, o2 + j * 4, none⟩) hb2).trans y0
      have y1' := (HB.out.cell (p := ⟨p2, o2 + j * 4 + 1, none⟩) hb2).trans y1
      have y2' := (HB.out.cell (p := ⟨p2, o2 + j * 4 + 2, none⟩) hb2).trans y2
      have y3' := (HB.out.cell (p := ⟨p2, o2 + j * 4 + 3, none⟩) hb2).trans y3
      have j0 : (0 : Int) ≤ j := by omega
      have j1 : (j : Int) < l.length := by omega
      have hne := run_neq_chk x
      have hgd := fun (wx : World) => run_eqGuard_agg wx .neq 44 (.tmp 38) (.tmp 43) #[.string x.1, .int .i64 x.2.1, .int .i64 x.2.2.1, .int .i64 x.2.2.2] #[.string x.1, .int .i64 x.2.1, .int .i64 x.2.2.1, .int .i64 x.2.2.2] Try.guardChk
      simp only [chkA] at hne
      have HBR := Keep.mk hbr
      clear x0 x1 x2 x3 y0 y1 y2 y3 hx hbr
      go_wp2_with fail
      go_quiet (fail)
      go_wp2
      go_roundw
      case rel => exact ⟨j + 1, by omega, by go_num, below_drewN HBR.out _⟩
      case measure => simp [intOf]; omega
    · have hjl : j = l.length := by omega
      subst hjl
      go_wp2
      go_ret
      exact ⟨rfl, HB.out⟩
end Go.Proofs.Ytomlknjpaielgaa
