/- slices.Concat of two lists of strings. Condition: at most a thousand million strings. -/
import Derived.Test.YtgimdbflpdmlmaaCkProg
import Derived.Lib.AppendZerosOnto
namespace Go.Proofs.Ytgimdbflpdmlmaa
set_option maxRecDepth 100000
open Go.RowKit Go.Shelf Go.Proofs.Ytgimdbflpdmlmaa.Ck

theorem grown_none {w w' : World} (h : Below w.heap.size w w') : w.grownBy w' none := ⟨h.os, h.tape, h.output, h.size, fun k hk _ => h.block k hk⟩
set_option maxHeartbeats 4000000 in
theorem grow_nil (n : Nat) (w : World) (hn : n ≤ 2000000000) : Calls Try.prog 57 #[.slice none 0 0, .int .i64 n] w fun e w' => ∃ v, e = .returned v ∧ OwnStrs w.heap.size w' v [] ∧ Below w.heap.size w w' := by
  go_enter Try.func57, Try.ntmps57
  by_cases h0 : n = 0
  · subst h0
    go_wp2_with fail
    go_ret
    exact ⟨_, rfl, OwnStrs.nil _ _, Below.refl _ _⟩
  · have hp : (0 : Int) < (n : Int) := by omega
    obtain ⟨i0, hi, hz0, hz1, hz2⟩ := info_parts Try.infoStrS
    have HG := fun ty => Lib.run_append_grow_zeros w 22 3 ty 9 i0 (.string ⟨#[]⟩) .i64 .i64 Try.underlying22 Try.underlying3 hi hz0 none 0 0 [] (run_firstCells_none w.drew i0.size 0 0 0) n (by omega) (by rw [hz1]; decide) (by omega) (by omega) (by rw [hz2]; omega) (by rw [hz2]; exact growslice_fits (by omega) (by omega))
    have HGK := Keep.mk HG
    have hcap := grownCap_ge w (0 + n) 0 9
    have hcap2 := grownCap_le_maxLen w (0 + n) 0 9 (by unfold maxLen; omega)
    clear HG h0 hi hz0 hz1 hz2
    generalize grownCap w (0 + n) 0 9 = cap at *
    go_wp2_with (at_builtin; go_must (refine Lib.wpList_append_run _ rfl _ _ _ _ rfl _ _ rfl rfl _ _ (HGK.out _) ?_))
    go_ret
    refine ⟨_, rfl, ⟨by simp [strCells], .inr ⟨w.heap.size, cap, _, rfl, Nat.le_refl _, heap_alloc_new _ _, Nat.zero_le _, hcap2, ?_, by simp [strCells]⟩⟩, (Below.refl w.heap.size w).drew.alloc (Nat.le_refl _) _⟩
    simp [Builtin.zeroCells]
    omega
set_option maxHeartbeats 8000000 in
/-- Two lists one behind the other. -/
theorem concat_any {w : World} {X : Nat} {u1 u2 : Value} {l1 l2 : List ByteArray} (hX : w.heap[X]? = some (.cells #[u1, u2] 22 (0, 0))) (h1 : Strs w u1 l1) (h2 : Strs w u2 l2) (hl1 : l1.length ≤ 100000000) (hl2 : l2.length ≤ 100000000) :
    Calls Try.prog 35 #[.slice (some ⟨X, 0, none⟩) 2 2] w fun e w' => ∃ v, e = .returned v ∧ OwnStrs w.heap.size w' v (l1 ++ l2) ∧ Below w.heap.size w w' := by
  obtain ⟨i0, hi, hz0, hz1, hz2⟩ := info_parts Try.infoStrS
  obtain ⟨a1, c1, rfl, k1, k2, _⟩ := id h1
  obtain ⟨a2, c2, rfl, k3, k4, _⟩ := id h2
  unfold maxLen at k2 k4
  have H1 := Keep.mk h1
  have H2 := Keep.mk h2
  have HX := Keep.mk hX
  have x0 : w.cell? ⟨X, 0, none⟩ = some (.slice a1 l1.length c1) := by simp [World.cell?, hX]
  have x1 : w.cell? ⟨X, 1, none⟩ = some (.slice a2 l2.length c2) := by simp [World.cell?, hX]
  have xl : X < w.heap.size := (Array.getElem?_eq_some_iff.1 hX).1
  clear h1 h2 hX
  go_enter Try.func35, Try.ntmps35
  go_wp2_with fail
  go_loop [11, 3] (fun i s => (i = .int .i64 0 ∧ s = .int .i64 0) ∨ (i = .int .i64 1 ∧ s = .int .i64 l1.length) ∨ (i = .int .i64 2 ∧ s = .int .i64 ((l1.length + l2.length : Nat) : Int))) (fun i _ => 2 - (intOf i).toNat)
  case atStart => exact .inl ⟨rfl, rfl⟩
  case round =>
    rcases hrel with ⟨rfl, rfl⟩ | ⟨rfl, rfl⟩ | ⟨rfl, rfl⟩
    · go_wp2_with fail
      go_round
      case rel => exact .inr (.inl ⟨rfl, by first | rfl | (congr 1; omega)⟩)
      case measure => simp [intOf]
    · go_wp2_with fail
      go_round
      case rel => exact .inr (.inr ⟨rfl, by first | rfl | (congr 1; omega)⟩)
      case measure => simp [intOf]
    · have HGR := Keep.mk (grow_nil (l1.length + l2.length) w (by omega))
      have hsum : ((l1.length + l2.length : Nat) : Int) = (l1.length : Int) + (l2.length : Int) := by omega
      generalize l1.length + l2.length = sum at *
      clear hsum
      go_wp2_with fail
      refine HGR.out.mono ?_
      rintro e w1 ⟨v, rfl, hown, hb1⟩
      have HO := Keep.mk hown
      have HB := Keep.mk hb1
      clear hown hb1 HGR x0 x1 xl
      go_wp2_with fail
      go_loopw [27, 6] (fun i v wr => ((i = .int .i64 0 ∧ Keep (OwnStrs w.heap.size wr v [])) ∨ (i = .int .i64 1 ∧ Keep (OwnStrs w.heap.size wr v l1)) ∨ (i = .int .i64 2 ∧ Keep (OwnStrs w.heap.size wr v (l1 ++ l2)))) ∧ Keep (Below w.heap.size w wr)) (fun i _ _ => 2 - (intOf i).toNat)
      case atStart => exact ⟨.inl ⟨rfl, HO⟩, HB⟩
      case round =>
        obtain ⟨hrel, HBr⟩ := hrel
        have hx := (HBr.out.block X (Array.getElem?_eq_some_iff.1 HX.out).1).trans HX.out
        have x0 : wr.cell? ⟨X, 0, none⟩ = some (.slice a1 l1.length c1) := by simp [World.cell?, hx]
        have x1 : wr.cell? ⟨X, 1, none⟩ = some (.slice a2 l2.length c2) := by simp [World.cell?, hx]
        have xl : X < wr.heap.size := (Array.getElem?_eq_some_iff.1 hx).1
        have hbs := HBr.out.size
        clear hx HO HB
        rcases hrel with ⟨rfl, HR⟩ | ⟨rfl, HR⟩ | ⟨rfl, HR⟩
        · have HS := Keep.mk (H1.out.below HBr.out (Nat.le_refl _)).slc
          obtain ⟨av, cv, rfl⟩ := ownsRow_slice HR.out
          go_wp2_with (at_builtin; go_must (refine wpList_append_slc rfl _ _ 22 rfl w.heap.size 9 i0 (.string ⟨#[]⟩) 1 16 Try.underlying22 hi hz0 hz1 hz2 rfl (by decide) _ 0 [] rfl HR.out _ l1.length (strCells l1) rfl HS.out (by simp [strCells, Value.oneCell']) (by unfold maxLen; omega) (by omega) (by omega) ?_); intro v5 w5 hown5 hg5 _; have H5 := Keep.mk (And.intro hown5 hg5); clear hown5 hg5)
          go_round
          case rel =>
            refine ⟨.inr (.inl ⟨rfl, ⟨?_⟩⟩), ⟨HBr.out.grown H5.out.2 hbs (fun k hk => (World.ownsRow.lt HR.out k hk).1)⟩⟩
            have := H5.out.1
            rw [Nat.zero_add, List.nil_append] at this
            exact this
          case measure => simp [intOf]
        · have HS := Keep.mk (H2.out.below HBr.out (Nat.le_refl _)).slc
          obtain ⟨av, cv, rfl⟩ := ownsRow_slice HR.out
          go_wp2_with (at_builtin; go_must (refine wpList_append_slc rfl _ _ 22 rfl w.heap.size 9 i0 (.string ⟨#[]⟩) 1 16 Try.underlying22 hi hz0 hz1 hz2 rfl (by decide) _ l1.length (strCells l1) rfl HR.out _ l2.length (strCells l2) rfl HS.out (by simp [strCells, Value.oneCell']) (by unfold maxLen; omega) (by omega) (by omega) ?_); intro v5 w5 hown5 hg5 _; have H5 := Keep.mk (And.intro hown5 hg5); clear hown5 hg5)
          go_round
          case rel =>
            refine ⟨.inr (.inr ⟨rfl, ⟨?_⟩⟩), ⟨HBr.out.grown H5.out.2 hbs (fun k hk => (World.ownsRow.lt HR.out k hk).1)⟩⟩
            have := H5.out.1
            unfold OwnStrs
            rw [List.length_append, strCells, List.map_append]
            exact this
          case measure => simp [intOf]
        · go_wp2_with fail
          go_ret
          exact ⟨_, rfl, HR.out, HBr.out⟩
end Go.Proofs.Ytgimdbflpdmlmaa
