/- Stores and extents compared; few. No condition. -/
import Derived.Test.YtomlknjpaielgaaStorePut
import Derived.Laws.StructEq
import Derived.ChangeKeysEq
namespace Go.Proofs.Ytomlknjpaielgaa
set_option maxRecDepth 100000
open Go.RowKit Go.Shelf Go.Proofs.Ytomlknjpaielgaa.Store

theorem Try.guardExt : Try.prog.eqGuardType Try.prog.depth 42 = false := by kernel_rfl
theorem Try.guardChk : Try.prog.eqGuardType Try.prog.depth 44 = false := by kernel_rfl
theorem run_equalIn_ext (x y : Ext) (w : World) (f : Nat) : (Op.equalIn (f + 2) 42 (extA x) (extA y)).run Try.prog w = .ok (decide (x = y)) w := by
  have hf : (Try.prog.fieldsOf 42).toList = [{ name := "Session", type := 3, offset := 0, embedded := false, tag := "", pkgPath := "", byteOffset := 0 }, { name := "Offset", type := 3, offset := 1, embedded := false, tag := "", pkgPath := "", byteOffset := 8 }, { name := "Length", type := 3, offset := 2, embedded := false, tag := "", pkgPath := "", byteOffset := 16 }] := by
    simp only [Program.fieldsOf, Try.underlying42]
  have p1 : ∀ a b c : Value, (Go.part 3 #[a, b, c] 0).run Try.prog w = .ok a w := fun a b c => run_part_plain w (by kernel_rfl) rfl
  have p2 : ∀ a b c : Value, (Go.part 3 #[a, b, c] 1).run Try.prog w = .ok b w := fun a b c => run_part_plain w (by kernel_rfl) rfl
  have p3 : ∀ a b c : Value, (Go.part 3 #[a, b, c] 2).run Try.prog w = .ok c w := fun a b c => run_part_plain w (by kernel_rfl) rfl
  have e1 : ∀ a b, (Op.equalIn (f + 1) 3 (.int .i64 a) (.int .i64 b)).run Try.prog w = .ok (a == b) w := fun a b => run_equalIn_int w f 3 _ _ a b Try.underlying3
  have hd : (x.1 == y.1 && (x.2.1 == y.2.1 && x.2.2 == y.2.2)) = decide (x = y) := by
    rw [Bool.eq_iff_iff]
    simp only [Bool.and_eq_true, beq_iff_eq, decide_eq_true_eq]
    exact ⟨fun ⟨h1, h2, h3⟩ => Prod.ext h1 (Prod.ext h2 h3), fun h => by rw [h]; exact ⟨rfl, rfl, rfl⟩⟩
  rw [extA, extA, run_equalIn_agg w (f + 1) 42 _ _ (by kernel_rfl) (by kernel_rfl), hf, ← hd]
  simp only [Op.eqFields]
  rw [if_pos (by decide), if_pos (by decide), if_pos (by decide)]
  simp only [Sem.run_bind, p1, p2, p3, e1, Result.andThen, Sem.run_ite, Sem.run_pure]
  cases h1 : (x.1 == y.1) <;> cases h2 : (x.2.1 == y.2.1) <;> cases h3 : (x.2.2 == y.2.2) <;> simp
theorem run_neq_ext (x y : Ext) (w : World) : (binOp .neq 42 (extA x) (extA y)).run Try.prog w = .ok (.bool (!decide (x = y))) w := by
  rw [extA, extA, run_neq_struct]
  have := run_equalIn_ext x y w 9998
  rw [extA, extA] at this
  rw [this]
  rfl
theorem run_eql_ext (x y : Ext) (w : World) : (binOp .eql 42 (extA x) (extA y)).run Try.prog w = .ok (.bool (decide (x = y))) w := by
  rw [extA, extA, run_eql_struct]
  have := run_equalIn_ext x y w 9998
  rw [extA, extA] at this
  rw [this]
  rfl

set_option maxHeartbeats 2000000 in
theorem sameExts_any (u v : Value) (l m : List Ext) (w : World) (hu : Exts w u l) (hv : Exts w v m) :
    Calls Try.prog 16 #[u, v] w fun e w' => e = .returned (.bool (decide (l = m))) ∧ Below w.heap.size w w' := by
  obtain ⟨au, cu, rfl, hu1, hu2, hu3⟩ := hu.parts
  obtain ⟨av, cv, rfl, hv1, hv2, hv3⟩ := hv.parts
  have HU := Keep.mk hu3
  have HV := Keep.mk hv3
  unfold maxLen at hu2 hv2
  clear hu hv hu3 hv3
  by_cases hlen : l.length = m.length
  · have hb : ((l.length : Int) != (m.length : Int)) = false := by simp [hlen]
    have HL := Keep.mk hlen
    clear hlen
    go_enter Try.func16, Try.ntmps16
    go_wp2
    go_loopw [5] (fun i wr => ∃ j : Nat, j ≤ l.length ∧ i = .int .i64 j ∧ Keep (l.take j = m.take j) ∧ Below w.heap.size w wr) (fun i _ => l.length - (intOf i).toNat)
    case atStart => exact ⟨0, Nat.zero_le _, rfl, ⟨rfl⟩, Below.refl _ _⟩
    case round =>
      obtain ⟨j, hj, rfl, hT, hbr⟩ := hrel
      by_cases hlt : j < l.length
      · obtain ⟨x, hx⟩ : ∃ x, l[j]? = some x := ⟨_, List.getElem?_eq_getElem hlt⟩
        obtain ⟨y, hy⟩ : ∃ y, m[j]? = some y := ⟨_, List.getElem?_eq_getElem (by have := HL.out; omega)⟩
        obtain ⟨b1, o1, rfl, hb1, hx1, hx2, hx3⟩ := HU.out j x hx
        obtain ⟨b2, o2, rfl, hb2, hy1, hy2, hy3⟩ := HV.out j y hy
        have hx1' := (hbr.cell (p := ⟨b1, o1 + j * 3, none⟩) hb1).trans hx1
        have hx2' := (hbr.cell (p := ⟨b1, o1 + j * 3 + 1, none⟩) hb1).trans hx2
        have hx3' := (hbr.cell (p := ⟨b1, o1 + j * 3 + 2, none⟩) hb1).trans hx3
        have hy1' := (hbr.cell (p := ⟨b2, o2 + j * 3, none⟩) hb2).trans hy1
        have hy2' := (hbr.cell (p := ⟨b2, o2 + j * 3 + 1, none⟩) hb2).trans hy2
        have hy3' := (hbr.cell (p := ⟨b2, o2 + j * 3 + 2, none⟩) hb2).trans hy3
        have hjm : j < m.length := by have := HL.out; omega
        clear hx1 hx2 hx3 hy1 hy2 hy3
        go_wp2
        have hne := run_neq_ext x y
        have hgd := fun (wx : World) => run_eqGuard_agg wx .neq 42 (.tmp 20) (.tmp 24) #[.int .i64 x.1, .int .i64 x.2.1, .int .i64 x.2.2] #[.int .i64 y.1, .int .i64 y.2.1, .int .i64 y.2.2] Try.guardExt
        simp only [extA] at hne
        have HX := Keep.mk hx
        have HY := Keep.mk hy
        clear hx hy
        by_cases he : x = y
        · rw [decide_eq_true he] at hne
          have HE := Keep.mk he
          clear he
          go_quiet (fail)
          go_wp2
          go_roundw
          case rel => exact ⟨j + 1, by omega, by go_num, ⟨by rw [List.take_add_one, List.take_add_one, hT.out, HX.out, HY.out, HE.out]⟩, below_drewN hbr _⟩
          case measure => simp [intOf]; omega
        · rw [decide_eq_false he] at hne
          go_quiet (fail)
          go_wp2
          go_ret
          refine ⟨ret_bool ?_, below_drewN hbr _⟩
          symm
          rw [decide_eq_false_iff_not]
          intro e
          have := HX.out
          rw [e, HY.out] at this
          cases this
          exact he rfl
      · go_wp2
        go_ret
        refine ⟨ret_bool ?_, hbr⟩
        symm
        rw [decide_eq_true_iff]
        have := hT.out
        rw [List.take_of_length_le (by omega), List.take_of_length_le (by have := HL.out; omega)] at this
        exact this
  · have hb : ((l.length : Int) != (m.length : Int)) = true := by simp; omega
    go_enter Try.func16, Try.ntmps16
    go_wp2
    go_ret
    refine ⟨ret_bool ?_, Below.refl _ _⟩
    symm
    rw [decide_eq_false_iff_not]
    intro e
    exact hlen (by rw [e])

/-- What few returns. -/
def FewIs (l : List ByteArray) (b : Bool) : Prop := b = true → (∀ s ∈ l, s.size ≤ 600) ∧ bytesS l + l.length ≤ 1200
def FewPost (l : List ByteArray) (e : Ending) : Prop := ∃ b, e = .returned (.bool b) ∧ FewIs l b
theorem fewNo (l : List ByteArray) : FewPost l (.returned (.bool false)) := ⟨false, rfl, fun h => by cases h⟩
set_option maxHeartbeats 2000000 in
theorem few_any {w : World} {v : Value} {l : List ByteArray} (hS : Strs w v l) :
    Calls Try.prog 9 #[v] w fun e w' => FewPost l e ∧ w = w' := by
  obtain ⟨a, cap, rfl, h1, h2, h3⟩ := hS.at
  clear hS
  have H3 := Keep.mk h3
  clear h3
  unfold maxLen at h2
  go_enter Try.func9, Try.ntmps9
  go_wp2_with fail
  go_loopw [7, 3] (fun i n wr => ∃ k : Nat, k ≤ l.length ∧ i = .int .i64 k ∧ n = .int .i64 ((bytesS (l.take k) + k : Nat) : Int) ∧ bytesS (l.take k) + k ≤ 1200 ∧ Keep (∀ s ∈ l.take k, s.size ≤ 600) ∧ Keep (w = wr)) (fun i _ _ => l.length - (intOf i).toNat)
  case atStart => exact ⟨0, by omega, rfl, rfl, by simp [bytesS], ⟨by simp⟩, ⟨rfl⟩⟩
  case round =>
    obtain ⟨k, hk, rfl, rfl, hn, HA, hw⟩ := hrel
    by_cases hlt : k < l.length
    · obtain ⟨s, hs⟩ : ∃ s, l[k]? = some s := ⟨_, List.getElem?_eq_getElem hlt⟩
      obtain ⟨b, o, rfl, hbw, hc⟩ := H3.out k s hs
      rw [hw.out] at hc
      have hN : bytesS (l.take (k + 1)) = bytesS (l.take k) + s.size := by rw [List.take_add_one, hs]; simp [bytesS]
      have hT : l.take (k + 1) = l.take k ++ [s] := by rw [List.take_add_one, hs]; rfl
      have HN := Keep.mk hN
      have HT := Keep.mk hT
      clear hN hT hs
      generalize bytesS (l.take k) = n at *
      generalize hNk : n + k = N at *
      have HNK := Keep.mk hNk
      clear hNk
      have i0 : (0 : Int) ≤ k := by omega
      have i1 : (k : Int) < l.length := by omega
      by_cases hs2 : 600 < s.size
      · have hs2' : (600 : Int) < (s.size : Int) := by omega
        go_wp2
        go_ret
        exact ⟨fewNo l, hw.out⟩
      · have hs2' : ¬ (600 : Int) < (s.size : Int) := by omega
        by_cases hb : 1200 < N + 1 + s.size
        · have hb' : (1200 : Int) < (N : Int) + 1 + (s.size : Int) := by omega
          go_wp2
          go_ret
          exact ⟨fewNo l, hw.out⟩
        · have hb' : ¬ (1200 : Int) < (N : Int) + 1 + (s.size : Int) := by omega
          go_wp2
          go_roundw
          case rel =>
            refine ⟨k + 1, by omega, by go_num, by have := HNK.out; rw [HN.out, show n + s.size + (k + 1) = N + 1 + s.size by omega]; go_num, by have := HNK.out; rw [HN.out]; omega, ⟨fun t ht => ?_⟩, hw⟩
            rw [HT.out] at ht
            rcases List.mem_append.1 ht with h | h
            · exact HA.out t h
            · rw [List.mem_singleton] at h; subst h; omega
          case measure => simp [intOf]; omega
    · have hkl : k = l.length := by omega
      subst hkl
      go_wp2
      go_ret
      have := HA.out
      rw [List.take_length] at hn this
      exact ⟨⟨true, rfl, fun _ => ⟨this, hn⟩⟩, hw.out⟩
end Go.Proofs.Ytomlknjpaielgaa
