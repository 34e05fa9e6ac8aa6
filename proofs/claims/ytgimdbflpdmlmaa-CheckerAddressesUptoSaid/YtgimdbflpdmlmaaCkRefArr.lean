/- The reference's Arrays, walked: the same as the program's. No condition but the lists' bounds. -/
import Derived.Test.YtgimdbflpdmlmaaCkArr
namespace Go.Proofs.Ytgimdbflpdmlmaa
set_option maxRecDepth 100000
open Go.RowKit Go.Shelf Go.Proofs.Ytgimdbflpdmlmaa.Ck

set_option maxHeartbeats 8000000 in
theorem refArrays_any {w : World} {vs rs fs : Value} {p : Pr} (h : PrAt w vs rs fs p) (hl : p.arrays.length ≤ 100000000) (oc os a : Int) :
    Calls Try.prog 22 #[.agg #[vs, rs, fs], .agg #[.int .i64 oc, .int .i64 os, .int .i64 a]] w fun e w' => ArEnd w p.arrays.length (placeC a p.arrays) e w' := by
  obtain ⟨h1, h2, h3⟩ := h
  obtain ⟨a1, c1, rfl, k1, k2, _⟩ := h1
  obtain ⟨a2, c2, rfl, k3, k4⟩ := h2.len
  obtain ⟨a3, c3, rfl, k5, k6⟩ := h3.len
  unfold maxLen at k2 k4 k6
  have H2 := Keep.mk h2
  clear h2 h3
  obtain ⟨i0, hi, hz0, hz1, hz2⟩ := info_parts Try.infoSym
  generalize hq : placeC a p.arrays = q at *
  have HQ := Keep.mk hq
  clear hq
  go_enter Try.func22, Try.ntmps22
  have hb0 : Below w.heap.size w ((w.alloc (.cells #[.slice a1 p.vars.length c1, .slice a2 p.arrays.length c2, .slice a3 p.funcs.length c3] 26)).alloc (.cells #[.int .i64 oc, .int .i64 os, .int .i64 a] 55)) := ((Below.refl _ _).alloc (Nat.le_refl _) _).alloc (by simp) _
  have HB0 := Keep.mk hb0
  clear hb0
  have hr0 := World.ownsRow_made (base := w.heap.size) (e := 60) (size := 2) ((w.alloc (.cells #[.slice a1 p.vars.length c1, .slice a2 p.arrays.length c2, .slice a3 p.funcs.length c3] 26)).alloc (.cells #[.int .i64 oc, .int .i64 os, .int .i64 a] 55)) #[] 0 HB0.out.size (by decide) rfl
  have HR0 := Keep.mk hr0
  have HB1 := Keep.mk (HB0.out.alloc HB0.out.size (.cells #[] 60))
  clear hr0
  go_wp2_with fail
  go_loopw [16, 6, 7] (fun i out t wr => ∃ (k : Nat) (r : List (ByteArray × Int)) (z : Int), k ≤ p.arrays.length ∧ i = .int .i64 k ∧ t = .int .i64 z ∧ Keep (z = a + ((p.arrays.take k).map (·.2)).sum) ∧ Keep (placeC a (p.arrays.take k) = some r) ∧ Keep (wr.ownsRow w.heap.size 60 2 out k (symCells r)) ∧ Keep (Below w.heap.size w wr)) (fun i _ _ _ => p.arrays.length - (intOf i).toNat)
  case atStart => exact ⟨0, [], a, Nat.zero_le _, rfl, rfl, ⟨by simp⟩, ⟨rfl⟩, by simpa [symCells] using HR0, HB1⟩
  case round =>
    obtain ⟨k, r, z, hk, rfl, rfl, HZ, HPl, HRr, HBr⟩ := hrel
    clear HB0 HB1 HR0
    by_cases hlt : k < p.arrays.length
    · have k0 : (0 : Int) ≤ k := by omega
      have k1' : (k : Int) < p.arrays.length := by omega
      obtain ⟨⟨x, sz⟩, hxk⟩ : ∃ x, p.arrays[k]? = some x := ⟨_, List.getElem?_eq_getElem hlt⟩
      obtain ⟨b, o, cap, hv, hb, hc0, hc1⟩ := H2.out.get hxk
      simp only [Value.slice.injEq, true_and] at hv
      obtain ⟨rfl, rfl⟩ := hv
      have z0 := (HBr.out.cell (p := ⟨b, o + k * 2, none⟩) hb).trans hc0
      have z1 := (HBr.out.cell (p := ⟨b, o + k * 2 + 1, none⟩) hb).trans hc1
      have hbl : b < wr.heap.size := Nat.lt_of_lt_of_le hb HBr.out.size
      obtain ⟨st1, st2, st3⟩ := placeC_step HPl.out hxk
      rw [← HZ.out] at st1 st2
      have ST1 := Keep.mk st1
      have ST2 := Keep.mk st2
      have ST3 := Keep.mk st3
      obtain ⟨ua, uc, rfl⟩ := ownsRow_slice HRr.out
      clear hc0 hc1 hxk st1 st2 st3
      go_upto_region 6 with (fail)
      have hbz : Below wr.heap.size wr (wr.alloc (.cells #[.string x, .int .i64 sz] 68)) := (Below.refl _ _).alloc (Nat.le_refl _) _
      have hez := heap_alloc_new wr (.cells #[.string x, .int .i64 sz] 68)
      have HBz := Keep.mk (HBr.out.trans (hbz.mono HBr.out.size))
      have HRz := Keep.mk (World.ownsRow.alloc HRr.out (.cells #[.string x, .int .i64 sz] 68))
      have HLT : Keep (∀ g, (Value.slice ua k uc).ownBlock = some g → g ≠ wr.heap.size) := ⟨fun g hg => by have := (World.ownsRow.lt HRr.out g hg).2; omega⟩
      have HEZ := Keep.mk hez
      clear z0 z1 hbl hbz HRr HBr
      generalize (wr.alloc (.cells #[.string x, .int .i64 sz] 68)) = wz at *
      have q0 : wz.cell? ⟨wr.heap.size, 0, none⟩ = some (.string x) := by simp [World.cell?, hez]
      have q1 : wz.cell? ⟨wr.heap.size, 1, none⟩ = some (.int .i64 sz) := by simp [World.cell?, hez]
      have ql : wr.heap.size < wz.heap.size := (Array.getElem?_eq_some_iff.1 hez).1
      clear hez
      by_cases hbad : z < 0 ∨ 262144 < z ∨ sz ≤ 0 ∨ 262144 - z < sz
      · have HNO := Keep.mk (ST1.out hbad)
        have hbad' : sz ≤ 0 ∨ (¬ sz ≤ 0 ∧ z < 0) ∨ (¬ sz ≤ 0 ∧ ¬ z < 0 ∧ 262144 < z) ∨ (¬ sz ≤ 0 ∧ ¬ z < 0 ∧ ¬ 262144 < z ∧ 262144 - z < sz) := by omega
        clear hbad
        rcases hbad' with b1 | ⟨b1, b2⟩ | ⟨b1, b2, b3⟩ | ⟨b1, b2, b3, b4⟩
        all_goals (
          go_wp2_with fail
          go_ret2
          exact ArEnd.no HBz.out (HQ.out.symm.trans HNO.out))
      · have HYES := Keep.mk (ST2.out hbad)
        have b1 : ¬ z < 0 := by omega
        have b2 : ¬ 262144 < z := by omega
        have b3 : ¬ sz ≤ 0 := by omega
        have b4 : ¬ 262144 - z < sz := by omega
        clear hbad
        have hwz := HBz.out.size
        have hbS : Below wz.heap.size wz (wz.alloc (.cells #[.string x, .int .i64 z] 60)) := (Below.refl _ _).alloc (Nat.le_refl _) _
        go_upto_region 9 with (at_builtin; go_must (refine wpList_append_slc rfl _ _ 56 rfl w.heap.size 60 i0 (.agg #[.string ⟨#[]⟩, .int .i64 0]) 2 24 Try.underlying56 hi hz0 hz1 hz2 rfl (by decide) _ k (symCells r) rfl (World.ownsRow.alloc HRz.out _) _ 1 [.string x, .int .i64 z] rfl (Slc.made (t := 60) [.string x, .int .i64 z] (by decide) rfl) (by simp [Value.oneCell']) (by unfold maxLen; omega) (by omega) (by simp; omega) ?_); intro v9 w9 hown9 hg9 hv9; obtain ⟨a9, c9, rfl⟩ := ownsRow_slice hown9; have H9 := Keep.mk (And.intro hown9 hg9); clear hown9 hg9 hv9)
        have n9 := H9.out.2.block wr.heap.size (by simp; omega) (fun e => HLT.out _ e.symm rfl)
        have n8 := n9.trans ((hbS.block wr.heap.size ql).trans HEZ.out)
        have m1 : w9.cell? ⟨wr.heap.size, 1, none⟩ = some (.int .i64 sz) := by simp [World.cell?, n8]
        have ml : wr.heap.size < w9.heap.size := (Array.getElem?_eq_some_iff.1 n8).1
        have HB9 := Keep.mk (below_append (Below.alloc HBz.out hwz (.cells #[.string x, .int .i64 z] 60)) (by simp; omega) (World.ownsRow.alloc HRz.out _) (Nat.le_refl _) H9.out.2)
        clear n9 n8 hbS
        go_wp2_with fail
        go_roundw
        case rel =>
          refine ⟨k + 1, r ++ [(x, z)], z + sz, by omega, by go_num, rfl, ⟨?_⟩, HYES, ⟨?_⟩, HB9⟩
          · rw [ST3.out, HZ.out]; exact Int.add_assoc _ _ _
          · rw [symCells_snoc]; exact H9.out.1
        case measure => simp [intOf]; omega
    · have hka : k = p.arrays.length := by omega
      subst hka
      rw [List.take_length] at HPl
      obtain ⟨ua, uc, rfl⟩ := ownsRow_slice HRr.out
      go_wp2_with fail
      go_ret2
      exact ArEnd.yes HBr.out (HQ.out.symm.trans HPl.out) HRr.out
end Go.Proofs.Ytgimdbflpdmlmaa
