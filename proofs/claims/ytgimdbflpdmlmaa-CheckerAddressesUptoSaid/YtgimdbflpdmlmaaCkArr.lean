/- checker.Arrays, walked. No condition but the lists' bounds. -/
import Derived.Test.YtgimdbflpdmlmaaCkArrays
import Derived.Test.YtgimdbflpdmlmaaCkProgram
namespace Go.Proofs.Ytgimdbflpdmlmaa
set_option maxRecDepth 100000
open Go.RowKit Go.Shelf Go.Proofs.Ytgimdbflpdmlmaa.Ck

theorem Try.infoSym : (Try.prog.info? 60).map (fun i => (i.zero, i.size, i.bytes)) = some (some (.agg #[.string ⟨#[]⟩, .int .i64 0]), 2, 24) := by kernel_rfl
def symCells (l : List (ByteArray × Int)) : List Value := l.flatMap fun t => [Value.string t.1, .int .i64 t.2]
theorem symCells_snoc (l : List (ByteArray × Int)) (t : ByteArray × Int) : symCells (l ++ [t]) = symCells l ++ [.string t.1, .int .i64 t.2] := by unfold symCells; rw [List.flatMap_append, List.flatMap_singleton]
/-- The state behind k arrays: the address, the list. -/
theorem placeC_step {l : List (BA × Int)} {a : Int} {k : Nat} {n : BA} {s : Int} {r : List (BA × Int)} (h : placeC a (l.take k) = some r) (hk : l[k]? = some (n, s)) :
    ((a + ((l.take k).map (·.2)).sum < 0 ∨ 262144 < a + ((l.take k).map (·.2)).sum ∨ s ≤ 0 ∨ 262144 - (a + ((l.take k).map (·.2)).sum) < s) → placeC a l = none) ∧
    (¬ (a + ((l.take k).map (·.2)).sum < 0 ∨ 262144 < a + ((l.take k).map (·.2)).sum ∨ s ≤ 0 ∨ 262144 - (a + ((l.take k).map (·.2)).sum) < s) → placeC a (l.take (k + 1)) = some (r ++ [(n, a + ((l.take k).map (·.2)).sum)])) ∧
    ((l.take (k + 1)).map (·.2)).sum = ((l.take k).map (·.2)).sum + s := by
  have e : l.take (k + 1) = l.take k ++ [(n, s)] := by rw [List.take_add_one, hk]; rfl
  have h1 := placeC_snoc n s (l.take k) a
  rw [h, Option.bind_some] at h1
  refine ⟨fun hb => ?_, fun hb => ?_, by rw [e]; simp⟩
  · rw [if_pos hb, ← e] at h1
    have : ∀ (x y : List (BA × Int)) (t : Int), placeC t x = none → placeC t (x ++ y) = none := by
      intro x
      induction x with
      | nil => intro y t h; cases h
      | cons p x ih =>
        obtain ⟨m, u⟩ := p
        intro y t h
        simp only [List.cons_append, placeC] at h ⊢
        split
        · rfl
        · rename_i hc
          rw [if_neg hc] at h
          rw [ih y _ (by simpa using h)]; rfl
    rw [← List.take_append_drop (k + 1) l]
    exact this _ _ _ h1
  · rw [if_neg hb, ← e] at h1
    exact h1
/-- What Arrays leaves. -/
def ArEnd (w : World) (n : Nat) (q : Option (List (ByteArray × Int))) (e : Ending) (w' : World) : Prop := Below w.heap.size w w' ∧
  match q with
  | none => e = .returned (.tuple #[.slice none 0 0, .int .i64 2])
  | some l => ∃ v, e = .returned (.tuple #[v, .int .i64 0]) ∧ w'.ownsRow w.heap.size 60 2 v n (symCells l)
theorem ArEnd.no {w w' : World} {n : Nat} {q : Option (List (ByteArray × Int))} (hb : Below w.heap.size w w') (hq : q = none) : ArEnd w n q (.returned (.tuple #[.slice none 0 0, .int .i64 2])) w' := by subst hq; exact ⟨hb, rfl⟩
theorem ArEnd.yes {w w' : World} {n : Nat} {q : Option (List (ByteArray × Int))} {l : List (ByteArray × Int)} {v : Value} (hb : Below w.heap.size w w') (hq : q = some l) (h : w'.ownsRow w.heap.size 60 2 v n (symCells l)) : ArEnd w n q (.returned (.tuple #[v, .int .i64 0])) w' := by subst hq; exact ⟨hb, v, rfl, h⟩
set_option maxHeartbeats 8000000 in
theorem arrays_any {w : World} {vs rs fs : Value} {p : Pr} (h : PrAt w vs rs fs p) (hl : p.arrays.length ≤ 100000000) (oc os a : Int) :
    Calls Try.prog 21 #[.agg #[vs, rs, fs], .agg #[.int .i64 oc, .int .i64 os, .int .i64 a]] w fun e w' => ArEnd w p.arrays.length (placeC a p.arrays) e w' := by
  obtain ⟨h1, h2, h3⟩ := h
  obtain ⟨a1, c1, rfl, k1, k2, _⟩ := h1
  obtain ⟨a2, c2, rfl, k3, k4⟩ := h2.len
  obtain ⟨a3, c3, rfl, k5, k6⟩ := h3.len
  unfold maxLen at k2 k4 k6
  have H2 := Keep.mk h2
  clear h2 h3
  obtain ⟨i0, hi, hz0, hz1, hz2⟩ := info_parts Try.infoSym
  generalize hq : placeC a p.arrays = q at *
  have HQ := Keep.mk hq
  clear hq
  go_enter Try.func21, Try.ntmps21
  have hb0 : Below w.heap.size w ((w.alloc (.cells #[.slice a1 p.vars.length c1, .slice a2 p.arrays.length c2, .slice a3 p.funcs.length c3] 26)).alloc (.cells #[.int .i64 oc, .int .i64 os, .int .i64 a] 55)) := ((Below.refl _ _).alloc (Nat.le_refl _) _).alloc (by simp) _
  have HB0 := Keep.mk hb0
  clear hb0
  go_wp2_with fail
  go_loopw [15, 6, 7] (fun i out t wr => ∃ (k : Nat) (r : List (ByteArray × Int)) (z : Int), k ≤ p.arrays.length ∧ i = .int .i64 k ∧ t = .int .i64 z ∧ Keep (z = a + ((p.arrays.take k).map (·.2)).sum) ∧ Keep (placeC a (p.arrays.take k) = some r) ∧ Keep (wr.ownsRow w.heap.size 60 2 out k (symCells r)) ∧ Keep (Below w.heap.size w wr)) (fun i _ _ _ => p.arrays.length - (intOf i).toNat)
  case atStart => exact ⟨0, [], a, Nat.zero_le _, rfl, rfl, ⟨by simp⟩, ⟨rfl⟩, ⟨World.ownsRow_nil _ _ _ _⟩, HB0⟩
  case round =>
    obtain ⟨k, r, z, hk, rfl, rfl, HZ, HPl, HRr, HBr⟩ := hrel
    clear HB0
    by_cases hlt : k < p.arrays.length
    · have k0 : (0 : Int) ≤ k := by omega
      have k1' : (k : Int) < p.arrays.length := by omega
      obtain ⟨⟨x, sz⟩, hxk⟩ : ∃ x, p.arrays[k]? = some x := ⟨_, List.getElem?_eq_getElem hlt⟩
      obtain ⟨b, o, cap, hv, hb, hc0, hc1⟩ := H2.out.get hxk
      simp only [Value.slice.injEq, true_and] at hv
      obtain ⟨rfl, rfl⟩ := hv
      have z0 := (HBr.out.cell (p := ⟨b, o + k * 2, none⟩) hb).trans hc0
      have z1 := (HBr.out.cell (p := ⟨b, o + k * 2 + 1, none⟩) hb).trans hc1
      have hbl : b < wr.heap.size := Nat.lt_of_lt_of_le hb HBr.out.size
      obtain ⟨st1, st2, st3⟩ := placeC_step HPl.out hxk
      rw [← HZ.out] at st1 st2
      have ST1 := Keep.mk st1
      have ST2 := Keep.mk st2
      have ST3 := Keep.mk st3
      obtain ⟨ua, uc, rfl⟩ := ownsRow_slice HRr.out
      clear hc0 hc1 hxk st1 st2 st3
      go_upto_region 6 with (fail)
      have hbz : Below wr.heap.size wr (wr.alloc (.cells #[.string x, .int .i64 sz] 68)) := (Below.refl _ _).alloc (Nat.le_refl _) _
      have hez := heap_alloc_new wr (.cells #[.string x, .int .i64 sz] 68)
      have HBz := Keep.mk (HBr.out.trans (hbz.mono HBr.out.size))
      have HRz := Keep.mk (World.ownsRow.alloc HRr.out (.cells #[.string x, .int .i64 sz] 68))
      have HLT : Keep (∀ g, (Value.slice ua k uc).ownBlock = some g → g ≠ wr.heap.size) := ⟨fun g hg => by have := (World.ownsRow.lt HRr.out g hg).2; omega⟩
      have HEZ := Keep.mk hez
      clear z0 z1 hbl hbz HRr HBr
      generalize (wr.alloc (.cells #[.string x, .int .i64 sz] 68)) = wz at *
      have q0 : wz.cell? ⟨wr.heap.size, 0, none⟩ = some (.string x) := by simp [World.cell?, hez]
      have q1 : wz.cell? ⟨wr.heap.size, 1, none⟩ = some (.int .i64 sz) := by simp [World.cell?, hez]
      have ql : wr.heap.size < wz.heap.size := (Array.getElem?_eq_some_iff.1 hez).1
      clear hez
      by_cases hbad : z < 0 ∨ 262144 < z ∨ sz ≤ 0 ∨ 262144 - z < sz
      · have HNO := Keep.mk (ST1.out hbad)
        have hbad' : z < 0 ∨ (¬ z < 0 ∧ 262144 < z) ∨ (¬ z < 0 ∧ ¬ 262144 < z ∧ sz ≤ 0) ∨ (¬ z < 0 ∧ ¬ 262144 < z ∧ ¬ sz ≤ 0 ∧ 262144 - z < sz) := by omega
        clear hbad
        rcases hbad' with b1 | ⟨b1, b2⟩ | ⟨b1, b2, b3⟩ | ⟨b1, b2, b3, b4⟩
        all_goals (
          go_wp2_with fail
          go_ret2
          exact ArEnd.no HBz.out (HQ.out.symm.trans HNO.out))
      · have HYES := Keep.mk (ST2.out hbad)
        have b1 : ¬ z < 0 := by omega
        have b2 : ¬ 262144 < z := by omega
        have b3 : ¬ sz ≤ 0 := by omega
        have b4 : ¬ 262144 - z < sz := by omega
        clear hbad
        have hwz := HBz.out.size
        have hbS : Below wz.heap.size wz (wz.alloc (.cells #[.string x, .int .i64 z] 60)) := (Below.refl _ _).alloc (Nat.le_refl _) _
        go_upto_region 9 with (at_builtin; go_must (refine wpList_append_slc rfl _ _ 56 rfl w.heap.size 60 i0 (.agg #[.string ⟨#[]⟩, .int .i64 0]) 2 24 Try.underlying56 hi hz0 hz1 hz2 rfl (by decide) _ k (symCells r) rfl (World.ownsRow.alloc HRz.out _) _ 1 [.string x, .int .i64 z] rfl (Slc.made (t := 60) [.string x, .int .i64 z] (by decide) rfl) (by simp [Value.oneCell']) (by unfold maxLen; omega) (by omega) (by simp; omega) ?_); intro v9 w9 hown9 hg9 hv9; obtain ⟨a9, c9, rfl⟩ := ownsRow_slice hown9; have H9 := Keep.mk (And.intro hown9 hg9); clear hown9 hg9 hv9)
        have n9 := H9.out.2.block wr.heap.size (by simp; omega) (fun e => HLT.out _ e.symm rfl)
        have n8 := n9.trans ((hbS.block wr.heap.size ql).trans HEZ.out)
        have m1 : w9.cell? ⟨wr.heap.size, 1, none⟩ = some (.int .i64 sz) := by simp [World.cell?, n8]
        have ml : wr.heap.size < w9.heap.size := (Array.getElem?_eq_some_iff.1 n8).1
        have HB9 := Keep.mk (below_append (Below.alloc HBz.out hwz (.cells #[.string x, .int .i64 z] 60)) (by simp; omega) (World.ownsRow.alloc HRz.out _) (Nat.le_refl _) H9.out.2)
        clear n9 n8 hbS
        go_wp2_with fail
        go_roundw
        case rel =>
          refine ⟨k + 1, r ++ [(x, z)], z + sz, by omega, by go_num, rfl, ⟨?_⟩, HYES, ⟨?_⟩, HB9⟩
          · rw [ST3.out, HZ.out]; exact Int.add_assoc _ _ _
          · rw [symCells_snoc]; exact H9.out.1
        case measure => simp [intOf]; omega
    · have hka : k = p.arrays.length := by omega
      subst hka
      rw [List.take_length] at HPl
      obtain ⟨ua, uc, rfl⟩ := ownsRow_slice HRr.out
      go_wp2_with fail
      go_ret2
      exact ArEnd.yes HBr.out (HQ.out.symm.trans HPl.out) HRr.out
end Go.Proofs.Ytgimdbflpdmlmaa
