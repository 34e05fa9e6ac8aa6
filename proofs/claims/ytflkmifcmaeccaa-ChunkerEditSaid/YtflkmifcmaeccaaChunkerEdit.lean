/- The law ChunkerEdit: chunks within a common prefix are the same, and so are those of a common suffix from a common boundary on. No condition. -/
import Derived.Test.YtflkmifcmaeccaaChunkerLocality
import Derived.Test.YtflkmifcmaeccaaMaps
import Derived.Deep.DeepCutAuto
import Derived.Deep.CutBlock
namespace Go.Proofs.Ytflkmifcmaeccaa
open Go.RowKit Go.Shelf Go.Proofs.Ytflkmifcmaeccaa.Chunk Go.ChangeShapes Go.WideShapes Go.ChangeAt
open Go.ChangeMaps (open_string shut_string)

def sumS (l : List ByteArray) : Nat := (l.map ByteArray.size).sum
theorem sumS_nil : sumS [] = 0 := rfl
theorem sumS_append (a b : List ByteArray) : sumS (a ++ b) = sumS a + sumS b := by simp [sumS]
theorem sumS_flat : ∀ l : List ByteArray, sumS l = ((l.map (·.data.toList)).flatten).length
  | [] => rfl
  | s :: l => by
    have := sumS_flat l
    simp only [sumS, List.map_cons, List.sum_cons, List.flatten_cons, List.length_append] at *
    rw [this]; simp
theorem sumS_take {l : List ByteArray} {i : Nat} {s : ByteArray} (h : l[i]? = some s) : sumS (l.take (i + 1)) = sumS (l.take i) + s.size := by
  rw [List.take_add_one, h, sumS_append]; simp [sumS]
theorem sumS_drop {l : List ByteArray} {i : Nat} {s : ByteArray} (h : l[i]? = some s) : sumS (l.drop i) = s.size + sumS (l.drop (i + 1)) := by
  obtain ⟨hi, rfl⟩ := List.getElem?_eq_some_iff.1 h
  rw [List.drop_eq_getElem_cons hi]; simp only [sumS, List.map_cons, List.sum_cons]
theorem sumS_take_le (l : List ByteArray) (i : Nat) : sumS (l.take i) ≤ sumS l := by
  conv => rhs; rw [← List.take_append_drop i l]
  rw [sumS_append]; omega
theorem sumS_drop_le (l : List ByteArray) (i : Nat) : sumS (l.drop i) ≤ sumS l := by
  conv => rhs; rw [← List.take_append_drop i l]
  rw [sumS_append]; omega
theorem sumS_chunks (m : List UInt8) : sumS (chunkS m) = m.length := by rw [sumS_flat, chunkS_flatten]

theorem data_len (s : ByteArray) : s.data.toList.length = s.size := by simp

theorem edit_front {p m n : List UInt8} {i : Nat} (hat : sumS ((chunkS (p ++ m)).take (i + 1)) ≤ p.length) (hne : sumS ((chunkS (p ++ m)).take (i + 1)) ≠ (p ++ m).length) :
    (chunkS (p ++ n))[i]? = (chunkS (p ++ m))[i]? := by
  have hlt : i + 1 + 1 ≤ (split (p ++ m)).length := by
    apply Nat.lt_of_not_le
    intro h
    rw [List.take_of_length_le (by simp [chunkS]; omega), sumS_chunks] at hne
    exact hne rfl
  have he : ((split (p ++ m)).take (i + 1)).flatten.length ≤ p.length := by
    rw [sumS_flat, chunkS, ← List.map_take, chunkS_map] at hat; exact hat
  obtain ⟨p', hp⟩ : ∃ p', p = ((split (p ++ m)).take (i + 1)).flatten ++ p' := by
    have hf := split_flatten (p ++ m)
    rw [← List.take_append_drop (i + 1) (split (p ++ m)), List.flatten_append] at hf
    rcases List.append_eq_append_iff.1 hf with ⟨a, h1, h2⟩ | ⟨a, h1, h2⟩
    · exact ⟨a, h1⟩
    · have := congrArg List.length h1
      simp only [List.length_append] at this
      have ha : a = [] := List.eq_nil_of_length_eq_zero (by omega)
      rw [ha, List.append_nil] at h1
      exact ⟨[], by rw [List.append_nil]; exact h1.symm⟩
  have hs : split (p ++ n) = (split (p ++ m)).take (i + 1) ++ split (p' ++ n) := split_common hlt (by rw [← List.append_assoc, ← hp])
  rw [chunkS, hs, chunkS, List.getElem?_map, List.getElem?_append_left (by rw [List.length_take]; omega), List.getElem?_take, if_pos (by omega), List.getElem?_map]

theorem edit_back {p q t : List UInt8} {k i : Nat} (h : sumS ((chunkS (p ++ t)).drop k) = sumS ((chunkS (q ++ t)).drop i)) (hle : sumS ((chunkS (q ++ t)).drop i) ≤ t.length) :
    (chunkS (p ++ t)).drop k = (chunkS (q ++ t)).drop i := by
  have key : ∀ (p : List UInt8) (k : Nat), sumS ((chunkS (p ++ t)).drop k) ≤ t.length → (((chunkS (p ++ t)).drop k).map (·.data.toList)).flatten = t.drop (t.length - sumS ((chunkS (p ++ t)).drop k)) := by
    intro p k hk
    have hf := chunkS_flatten (p ++ t)
    rw [← List.take_append_drop k (chunkS (p ++ t)), List.map_append, List.flatten_append] at hf
    have hz := sumS_flat ((chunkS (p ++ t)).drop k)
    have hl := congrArg List.length hf
    simp only [List.length_append] at hl
    have hd := congrArg (List.drop (p ++ t).length.succ.pred) hf
    have h2 := congrArg (List.drop ((p ++ t).length - sumS ((chunkS (p ++ t)).drop k))) hf
    rw [List.drop_append, List.drop_append] at h2
    rw [List.drop_of_length_le (by simp only [List.length_append]; omega), List.nil_append, List.drop_of_length_le (l := p) (by simp only [List.length_append]; omega), List.nil_append] at h2
    rw [show (p ++ t).length - sumS ((chunkS (p ++ t)).drop k) - (((chunkS (p ++ t)).take k).map (·.data.toList)).flatten.length = 0 by simp only [List.length_append]; omega, List.drop_zero] at h2
    rw [h2]
    congr 1
    simp only [List.length_append]; omega
  rw [← chunkS_drop (p ++ t) k, ← chunkS_drop (q ++ t) i, key p k (by omega), key q i hle, h]

/-- A slice of strings with what it holds, element by element. -/
theorem Strs.parts {w : World} {v : Value} {l : List ByteArray} (h : Strs w v l) : ∃ a c, v = .slice a l.length c ∧ l.length ≤ c ∧ c ≤ maxLen ∧
    ∀ i s, l[i]? = some s → ∃ b o, a = some ⟨b, o, none⟩ ∧ b < w.heap.size ∧ w.cell? ⟨b, o + i, none⟩ = some (.string s) := by
  obtain ⟨a, c, rfl, h1, h2, h3⟩ := h
  refine ⟨a, c, rfl, h1, h2, fun i s hi => ?_⟩
  rcases h3 with rfl | ⟨b, o, rfl, hb, hc⟩
  · simp at hi
  · exact ⟨b, o, rfl, hb, hc i s hi⟩

set_option maxRecDepth 10000 in
set_option maxHeartbeats 1000000 in
theorem chunkerEdit_any (p t a b : ByteArray) (w : World) (hp : p.size ≤ reachBytes) (ht : t.size ≤ reachBytes) (ha : a.size ≤ reachBytes) (hb : b.size ≤ reachBytes) :
    Calls Try.prog 4 #[.string p, .string t, .agg #[.string a, .string b]] w fun e w' => e = .returned (.bool true) ∧ Below w.heap.size w w' := by
  unfold reachBytes at hp ht ha hb
  by_cases hbig : 6000 < p.size + a.size + b.size + t.size
  · have hbg : (6000 : Int) < (p.size : Int) + (a.size : Int) + (b.size : Int) + (t.size : Int) := by omega
    go_enter Try.func4, Try.ntmps4
    go_wp2_with fail
    refine (alive_any _).mono ?_
    rintro e w1 ⟨rfl, hb1⟩
    have hc0 : w1.cell? ⟨w.heap.size, 0, none⟩ = some (.string a) := (hb1.cell (p := ⟨w.heap.size, 0, none⟩) (by simp)).trans (by rw [World.cell?]; simp only [World.alloc_heap_new]; rfl)
    have hc1 : w1.cell? ⟨w.heap.size, 1, none⟩ = some (.string b) := (hb1.cell (p := ⟨w.heap.size, 1, none⟩) (by simp)).trans (by rw [World.cell?]; simp only [World.alloc_heap_new]; rfl)
    have HFin : Keep (∀ w', Below w1.heap.size w1 w' → Below w.heap.size w w') := ⟨fun w' h => by
      have hz := hb1.size
      simp at hz
      exact (((Below.refl w.heap.size w).alloc (Nat.le_refl _) _).trans (hb1.mono (by simp))).trans (h.mono (by omega))⟩
    clear hb1
    go_wp2_with fail
    go_quiet (fail)
    go_wp2
    go_ret
    exact ⟨rfl, HFin.out _ (below_drewN (Below.refl _ _) _)⟩
  · have hbg : ¬ (6000 : Int) < (p.size : Int) + (a.size : Int) + (b.size : Int) + (t.size : Int) := by omega
    go_enter Try.func4, Try.ntmps4
    go_wp2_with fail
    refine (alive_any _).mono ?_
    rintro e w1 ⟨rfl, hb1⟩
    have hc0 : w1.cell? ⟨w.heap.size, 0, none⟩ = some (.string a) := (hb1.cell (p := ⟨w.heap.size, 0, none⟩) (by simp)).trans (by rw [World.cell?]; simp only [World.alloc_heap_new]; rfl)
    have hc1 : w1.cell? ⟨w.heap.size, 1, none⟩ = some (.string b) := (hb1.cell (p := ⟨w.heap.size, 1, none⟩) (by simp)).trans (by rw [World.cell?]; simp only [World.alloc_heap_new]; rfl)
    have HFin : Keep (∀ w', Below w1.heap.size w1 w' → Below w.heap.size w w') := ⟨fun w' h => by
      have hz := hb1.size
      simp at hz
      exact (((Below.refl w.heap.size w).alloc (Nat.le_refl _) _).trans (hb1.mono (by simp))).trans (h.mono (by omega))⟩
    clear hb1
    have hcat1 := fun (wx : World) => run_string_add_sum (P := Try.prog) wx p a (by omega)
    have hpa : (p ++ a).size = p.size + a.size := ByteArray.size_append
    have hcat2 := fun (wx : World) => run_string_add_sum (P := Try.prog) wx (p ++ a) t (by omega)
    have hpat : (p ++ a ++ t).size = p.size + a.size + t.size := by rw [ByteArray.size_append, hpa]
    have hcat3 := fun (wx : World) => run_string_add_sum (P := Try.prog) wx p b (by omega)
    have hpb : (p ++ b).size = p.size + b.size := ByteArray.size_append
    have hcat4 := fun (wx : World) => run_string_add_sum (P := Try.prog) wx (p ++ b) t (by omega)
    have hpbt : (p ++ b ++ t).size = p.size + b.size + t.size := by rw [ByteArray.size_append, hpb]
    have hq1 : (p ++ a ++ t).size ≤ 6000 := by omega
    have hq2 : (p ++ b ++ t).size ≤ 6000 := by omega
    have HQ := Keep.mk hpat
    have HQb := Keep.mk hpbt
    clear hpa hpat hpb hpbt
    go_wp2_with fail
    go_quiet (fail)
    go_wp2_with fail
    refine (split_strs (p ++ a ++ t) _ (by omega)).mono ?_
    rintro e w2 ⟨v2, rfl, hS2, hb2⟩
    have hz2 := hb2.size
    go_wp2_with fail
    refine (split_strs (p ++ b ++ t) _ (by omega)).mono ?_
    rintro e w3 ⟨v3, rfl, hS3, hb3⟩
    have hz3 := hb3.size
    have hX := hS2.below hb3 (Nat.le_refl _)
    have HFin3 : Keep (∀ w', Below w3.heap.size w3 w' → Below w.heap.size w w') := ⟨fun w' h => HFin.out _ ((below_drewN (Below.refl _ _) _).trans ((hb2.trans (hb3.mono hz2)).trans (h.mono (by omega))))⟩
    have HE1 : Keep (∀ i, sumS ((chunkS (p ++ a ++ t).data.toList).take (i + 1)) ≤ p.size → sumS ((chunkS (p ++ a ++ t).data.toList).take (i + 1)) ≠ p.size + a.size + t.size → (chunkS (p ++ b ++ t).data.toList)[i]? = (chunkS (p ++ a ++ t).data.toList)[i]?) := ⟨fun i h1 h2 => by
      have e1 : (p ++ a ++ t).data.toList = p.data.toList ++ (a.data.toList ++ t.data.toList) := by simp
      have e2 : (p ++ b ++ t).data.toList = p.data.toList ++ (b.data.toList ++ t.data.toList) := by simp
      rw [e1] at h1 h2 ⊢
      rw [e2]
      exact edit_front (by simpa using h1) (by simpa [Nat.add_assoc] using h2)⟩
    have HE2 : Keep (∀ k i, sumS ((chunkS (p ++ a ++ t).data.toList).drop k) = sumS ((chunkS (p ++ b ++ t).data.toList).drop i) → sumS ((chunkS (p ++ b ++ t).data.toList).drop i) ≤ t.size → (chunkS (p ++ a ++ t).data.toList).drop k = (chunkS (p ++ b ++ t).data.toList).drop i) := ⟨fun k i h1 h2 => by
      rw [app_data, app_data] at h1 ⊢
      rw [app_data (p ++ b)] at h1 h2 ⊢
      exact edit_back h1 (by simpa using h2)⟩
    have hTx : sumS (chunkS (p ++ a ++ t).data.toList) = p.size + a.size + t.size := by rw [sumS_chunks, data_len]; exact HQ.out
    have hTy : sumS (chunkS (p ++ b ++ t).data.toList) = p.size + b.size + t.size := by rw [sumS_chunks, data_len]; exact HQb.out
    have hlx := chunkS_length (p ++ a ++ t).data.toList
    have hly := chunkS_length (p ++ b ++ t).data.toList
    rw [data_len] at hlx
    rw [data_len] at hly
    have HTx := Keep.mk hTx
    have HTy := Keep.mk hTy
    have hlx' : (chunkS (p ++ a ++ t).data.toList).length ≤ 6000 := by omega
    have hly' : (chunkS (p ++ b ++ t).data.toList).length ≤ 6000 := by omega
    clear hTx hTy hlx hly hb2 hb3 hcat1 hcat2 hcat3 hcat4 HQ HQb hS2 HFin hc0 hc1 hq1 hq2
    generalize chunkS (p ++ a ++ t).data.toList = X at *
    generalize chunkS (p ++ b ++ t).data.toList = Y at *
    obtain ⟨ax, cx, rfl, hx1, hx2, hx3⟩ := hX.parts
    obtain ⟨ay, cy, rfl, hy1, hy2, hy3⟩ := hS3.parts
    have HXC := Keep.mk hx3
    have HYC := Keep.mk hy3
    clear hX hS3 hx3 hy3
    unfold maxLen at hx2 hy2
    go_upto_block 0 with fail
    go_cut [11] (fun _ wx => Below w3.heap.size w3 wx)
    case first =>
      go_wp2_with fail
      go_loopw [51, 11] (fun i v wr => ∃ j : Nat, j ≤ X.length ∧ i = .int .i64 j ∧ v = .int .i64 (sumS (X.take j) : Nat) ∧ Below w3.heap.size w3 wr) (fun i _ _ => X.length - (intOf i).toNat)
      case atStart => exact ⟨0, Nat.zero_le _, rfl, by simp [sumS], Below.refl _ _⟩
      case round =>
        obtain ⟨j, hj, rfl, rfl, hbr⟩ := hrel
        by_cases hlt : j < X.length
        · obtain ⟨x, hx⟩ : ∃ x, X[j]? = some x := ⟨_, List.getElem?_eq_getElem hlt⟩
          obtain ⟨b', o', rfl, hbx, hcx⟩ := HXC.out j x hx
          have hcx' := (hbr.cell (p := ⟨b', o' + j, none⟩) hbx).trans hcx
          have hA := sumS_take hx
          have hAt := sumS_take_le X (j + 1)
          have hTot := HTx.out
          have hE := HE1.out j
          rw [hA] at hE hAt
          rw [hx] at hE
          obtain ⟨A, hAA⟩ : ∃ A, A = sumS (X.take j) := ⟨_, rfl⟩
          rw [← hAA] at hA hE hAt ⊢
          have HA := Keep.mk hA
          have HE := Keep.mk hE
          have hAx : A + x.size ≤ 6000 := by omega
          clear hA hE hTot hAA hcx hx
          by_cases c1 : p.size < A + x.size
          · have c1' : (p.size : Int) < (A : Int) + (x.size : Int) := by omega
            go_wp2
            go_meet
            exact hbr
          · have c1' : ¬ (p.size : Int) < (A : Int) + (x.size : Int) := by omega
            by_cases c2 : A + x.size = p.size + a.size + t.size
            · have c2' : ((A : Int) + (x.size : Int) == (p.size : Int) + (a.size : Int) + (t.size : Int)) = true := beq_iff_eq.2 (by omega)
              clear c2
              go_wp2
              go_meet
              exact hbr
            · have c2' : ((A : Int) + (x.size : Int) == (p.size : Int) + (a.size : Int) + (t.size : Int)) = false := beq_eq_false_iff_ne.2 (by omega)
              by_cases c3 : Y.length ≤ j + 1
              · have c3' : (Y.length : Int) ≤ (j : Int) + 1 := by omega
                clear c2
                go_wp2
                go_meet
                exact hbr
              · have c3' : ¬ (Y.length : Int) ≤ (j : Int) + 1 := by omega
                have hy := HE.out (by omega) c2
                obtain ⟨b2, o2, rfl, hby, hcy⟩ := HYC.out j x hy
                have hcy' := (hbr.cell (p := ⟨b2, o2 + j, none⟩) hby).trans hcy
                have hne : (!x.toList == x.toList) = false := by simp
                clear c2 hy hcy
                go_wp2
                go_quiet (fail)
                go_wp2
                go_roundw
                case rel => exact ⟨j + 1, by omega, by go_num, by rw [HA.out]; go_num, below_drewN hbr _⟩
                case measure => simp [intOf]; omega
        · go_wp2
          go_meet
          exact hbr
    case rest =>
      have hmm := @run_makeMap Try.prog
      have HW3 := Keep.mk hcut
      have hz4 := hcut.size
      clear hcut HE1
      go_wp2
      go_loopw [15, 14] (fun i v wr => ∃ (k : Nat) (m : Int) (l : List (Int × Value)), k ≤ X.length ∧ m = (k : Int) - 1 ∧ i = .int .i64 m ∧ v = .int .i64 (sumS (X.drop k) : Nat) ∧ MapIs (intKey Try.underlying3) wr wc.heap.size l ∧ Keep (∀ n v, lookL n l = some v → ∃ k : Nat, v = .int .i64 k ∧ k < X.length ∧ n = (sumS (X.drop k) : Nat)) ∧ Below wc.heap.size wc wr) (fun i _ _ => (intOf i + 1).toNat)
      case atStart => exact ⟨X.length, _, [], Nat.le_refl _, rfl, by go_num, by simp [sumS], MapIs.made _ _, ⟨fun n v h => by cases h⟩, (Below.refl _ _).alloc (Nat.le_refl _) _⟩
      case round =>
        obtain ⟨k, m, l, hk, hm, rfl, rfl, hM, HL, hbr⟩ := hrel
        cases k with
        | zero =>
          obtain rfl : m = -1 := by omega
          obtain ⟨wm, hwm⟩ : ∃ x, x = wr := ⟨_, rfl⟩
          subst hwm
          have HW4 : Keep (Below w3.heap.size w3 wm) := ⟨HW3.out.trans (hbr.mono (by omega))⟩
          have hz5 := hbr.size
          have hgr := hM.lt
          clear hm hk hbr hmm
          go_wp2
          go_loopw [16, 14] (fun i v wr => ∃ (k : Nat) (m : Int), k ≤ Y.length ∧ m = (k : Int) - 1 ∧ i = .int .i64 m ∧ v = .int .i64 (sumS (Y.drop k) : Nat) ∧ Below wm.heap.size wm wr) (fun i _ _ => (intOf i + 1).toNat)
          case atStart => exact ⟨Y.length, _, Nat.le_refl _, rfl, by go_num, by simp [sumS], Below.refl _ _⟩
          case round =>
            obtain ⟨k, m, hk, hm, rfl, rfl, hbx⟩ := hrel
            cases k with
            | zero =>
              obtain rfl : m = -1 := by omega
              clear hm hk
              go_wp2
              go_ret
              exact ⟨rfl, HFin3.out _ (HW4.out.trans (hbx.mono (by omega)))⟩
            | succ k =>
              obtain rfl : m = (k : Int) := by omega
              clear hm
              obtain ⟨y, hy⟩ : ∃ y, Y[k]? = some y := ⟨_, List.getElem?_eq_getElem (by omega)⟩
              obtain ⟨b', o', rfl, hby, hcy⟩ := HYC.out k y hy
              have hcy' := (hbx.cell (p := ⟨b', o' + k, none⟩) (by simp; omega)).trans ((HW4.out.cell (p := ⟨b', o' + k, none⟩) hby).trans hcy)
              have hA := sumS_drop hy
              have hAt := sumS_drop_le Y k
              have hTot := HTy.out
              have hEk := HE2.out
              have hEi := fun j h1 h2 => hEk j k h1 h2
              clear hEk
              obtain ⟨A, hAA⟩ : ∃ A, A = sumS (Y.drop (k + 1)) := ⟨_, rfl⟩
              rw [← hAA] at hA ⊢
              have HA := Keep.mk hA
              have HEi := Keep.mk hEi
              have hAx : A + y.size ≤ 6000 := by omega
              have hYd := Strs.drop (w := w3) (n := k) (m := Y.length - k) hy1 (by unfold maxLen; exact hy2) hby (fun i s h => by
                obtain ⟨b2, o2, e, _, h2⟩ := HYC.out i s h
                simp only [Option.some.injEq, Addr.mk.injEq] at e
                obtain ⟨rfl, rfl, _⟩ := e
                exact h2) rfl (by omega)
              clear hA hTot hAA hcy hy hAt hEi
              have hMx := hM.below hbx hgr
              have hlk : (Instr.lookup 29 (.map (some wc.heap.size)) (.int .i64 ((A : Int) + (y.size : Int))) true).run Try.prog wr = .ok (.tuple #[(lookL ((A : Int) + (y.size : Int)) l).getD (.int .i64 0), .bool (lookL ((A : Int) + (y.size : Int)) l).isSome]) wr :=
                hMx.look Try.underlying29 (fun w => rfl) ((A : Int) + (y.size : Int)) true
              have hL := HL.out ((A : Int) + (y.size : Int))
              clear hMx
              cases hcase : lookL ((A : Int) + (y.size : Int)) l with
              | none =>
                rw [hcase] at hlk
                simp only [Option.getD_none, Option.isSome_none] at hlk
                clear hL hcase
                by_cases hle : (A : Int) + (y.size : Int) ≤ (t.size : Int)
                · go_wp2
                  go_quiet (fail)
                  go_wp2
                  go_roundw
                  case rel => exact ⟨k, _, by omega, rfl, by go_num, by rw [HA.out]; go_num, below_drewN hbx _⟩
                  case measure => simp [intOf]
                · have hld := decide_eq_false hle
                  go_wp2
                  go_quiet (fail)
                  go_wp2
                  go_roundw
                  case rel => exact ⟨k, _, by omega, rfl, by go_num, by rw [HA.out]; go_num, below_drewN hbx _⟩
                  case measure => simp [intOf]
              | some v =>
                rw [hcase] at hlk hL
                simp only [Option.getD_some, Option.isSome_some] at hlk
                obtain ⟨j, rfl, hj, hjs⟩ := hL v rfl
                have HJ := Keep.mk hjs
                clear hL hcase hjs
                by_cases hle : A + y.size ≤ t.size
                · have hEq := HEi.out j (by have := HA.out; have := HJ.out; omega) (by have := HA.out; omega)
                  obtain ⟨x, hx⟩ : ∃ x, X[j]? = some x := ⟨_, List.getElem?_eq_getElem (by omega)⟩
                  obtain ⟨b2, o2, rfl, hbX, hcx⟩ := HXC.out j x hx
                  have hXd := Strs.drop (w := w3) (n := j) (m := X.length - j) hx1 (by unfold maxLen; exact hx2) hbX (fun i s h => by
                    obtain ⟨b2, o2, e, _, h2⟩ := HXC.out i s h
                    simp only [Option.some.injEq, Addr.mk.injEq] at e
                    obtain ⟨rfl, rfl, _⟩ := e
                    exact h2) rfl (by omega)
                  rw [hEq] at hXd
                  have hXr := hXd.below (HW4.out.trans (hbx.mono (by omega))) (Nat.le_refl _)
                  have hYr := hYd.below (HW4.out.trans (hbx.mono (by omega))) (Nat.le_refl _)
                  clear hEq hXd hYd hcx hx
                  generalize Y.drop k = d at hXr hYr
                  have hck : ¬ cx = j := by omega
                  have hcj : ¬ cy = k := by omega
                  have i1 : (0 : Int) ≤ (j : Int) := Int.natCast_nonneg _
                  have i2 : (j : Int) ≤ (X.length : Int) := by omega
                  have i3 : (0 : Int) ≤ (k : Int) := Int.natCast_nonneg _
                  have i4 : (k : Int) ≤ (Y.length : Int) := by omega
                  have hle' : (A : Int) + (y.size : Int) ≤ (t.size : Int) := by omega
                  go_wp2_with fail

                  go_region_held3 (fun w' => Below wr.heap.size wr w')
                    (first | with_reducible exact (Below.refl wr.heap.size wr).drew | with_reducible exact Below.refl wr.heap.size wr | exact held_on hb4 (by assumption) | assumption)
                    ((go_at_call 12; refine (same_any _ _ d d _ ?_ ?_).mono ?_; (refine hXr.below ?_ (Nat.le_refl _); assumption); (refine hYr.below ?_ (Nat.le_refl _); assumption); rintro e w5 ⟨rfl, hb4⟩))
                  have hB5 : Below wr.heap.size wr w5 := by assumption
                  go_wp2
                  go_roundw
                  case rel => exact ⟨k, _, by omega, rfl, by go_num, by rw [HA.out]; go_num, hbx.trans (hB5.mono (by have := hbx.size; omega))⟩
                  case measure => simp [intOf]
                · have hle' : ¬ (A : Int) + (y.size : Int) ≤ (t.size : Int) := by omega
                  have hld := decide_eq_false hle'
                  go_wp2
                  go_quiet (fail)
                  go_wp2
                  go_roundw
                  case rel => exact ⟨k, _, by omega, rfl, by go_num, by rw [HA.out]; go_num, below_drewN hbx _⟩
                  case measure => simp [intOf]
        | succ k =>
          obtain rfl : m = (k : Int) := by omega
          clear hm
          obtain ⟨x, hx⟩ : ∃ x, X[k]? = some x := ⟨_, List.getElem?_eq_getElem (by omega)⟩
          obtain ⟨b', o', rfl, hbx, hcx⟩ := HXC.out k x hx
          have hcx' := (hbr.cell (p := ⟨b', o' + k, none⟩) (by simp; omega)).trans ((HW3.out.cell (p := ⟨b', o' + k, none⟩) hbx).trans hcx)
          have hA := sumS_drop hx
          have hAt := sumS_drop_le X k
          have hTot := HTx.out
          obtain ⟨A, hAA⟩ : ∃ A, A = sumS (X.drop (k + 1)) := ⟨_, rfl⟩
          rw [← hAA] at hA ⊢
          have HA := Keep.mk hA
          have hAx : A + x.size ≤ 6000 := by omega
          clear hA hTot hAA hcx hx hAt
          go_wp2_with (at_mapUpdate; refine wpList_store rfl _ _ _ _ rfl Try.underlying29 rfl hM ((A : Int) + (x.size : Int)) rfl ?_; intro w5 hM5 hg5)
          have hb5 : Below wc.heap.size wc w5 := hbr.grown hg5 (by have := hbr.size; omega) (fun k e => by cases e; omega)
          go_wp2
          go_roundw
          case rel => exact ⟨k, _, _, by omega, rfl, by go_num, by rw [HA.out]; go_num, hM5, ⟨fun n v h => by
            rw [look_put] at h
            split at h
            · rename_i e
              cases h
              exact ⟨k, rfl, by omega, by rw [e, HA.out]; omega⟩
            · exact HL.out n v h⟩, hb5⟩
          case measure => simp [intOf]
/-- An array of two strings, opened. -/
theorem open_two_strings {H : Type} {enc : TypeId × Value → H} {P : Program} {W : World} {base : Nat} {sp : Nat → Bool} {held : Bool} {k e : TypeId} {r : Reach} {b0 : Nat} {v : Value} {d : DataW H} {ps : List MemPlace}
    (hu : P.underlying k = some (.array 2 e)) (h1 : P.cellsOf e = 1) (h2 : P.cellsOf k = 2) (he : P.underlying e = some .string) (hval : Value.okWide P W r b0 k v) (hd : DataW.Trod enc P W base sp held k v d ps) :
    ∃ a b : ByteArray, v = .agg #[.string a, .string b] ∧ d = .agg [.lit (.string a.data.toList), .lit (.string b.data.toList)] ∧ ps = [] := by
  have hv : ∃ c0 c1, v = .agg #[c0, c1] := by
    simp only [Value.okWide, hu] at hval
    obtain ⟨cs, e1, e2, _⟩ := hval
    rw [h2] at e2
    obtain ⟨l⟩ := cs
    match l, e2 with
    | [c0, c1], _ => exact ⟨c0, c1, e1⟩
  obtain ⟨c0, c1, rfl⟩ := hv
  obtain ⟨fuel, hf⟩ := hd
  cases fuel with
  | zero => simp [DataW.trod] at hf
  | succ n =>
    rw [DataW.trod_step] at hf
    unfold DataW.trodStep at hf
    simp only [hu, Value.cells] at hf
    rw [if_pos (by rw [h2]; rfl)] at hf
    simp only [Option.map_eq_some_iff] at hf
    obtain ⟨xs, hx, e1⟩ := hf
    rw [show List.range 2 = [0, 1] from rfl, List.mapM_cons, List.mapM_cons, List.mapM_nil] at hx
    simp only [bind, Option.bind_eq_some_iff, pure, Option.some.injEq, h1] at hx
    obtain ⟨y0, h0, _, ⟨y1, h1', _, rfl, rfl⟩, rfl⟩ := hx
    obtain ⟨a, ea, rfl, _⟩ := DataW.trod_string he h0
    obtain ⟨b, eb, rfl, _⟩ := DataW.trod_string he h1'
    simp at ea eb
    subst ea; subst eb
    simp only [Prod.mk.injEq] at e1
    exact ⟨a, b, rfl, by rw [← e1.1]; rfl, by rw [← e1.2]; rfl⟩

theorem ChunkerEdit_walk : LawWalk 4 Try.f4 := by
  intro H enc W base args ds ps hval hA hsz
  rw [Try.params4] at hA hval hsz
  obtain ⟨v0, vs0, d0, ds0, p0, q0, hargs, rfl, rfl, h0, r0⟩ := trodAll_cons hA
  obtain ⟨v1, vs1, d1, ds1, p1, q1, rfl, rfl, rfl, h1, r1⟩ := trodAll_cons r0
  obtain ⟨v2, vs2, d2, ds2, p2, q2, rfl, rfl, rfl, h2, r2⟩ := trodAll_cons r1
  obtain ⟨rfl, rfl, rfl⟩ := trodAll_nil r2
  obtain rfl : args = #[v0, v1, v2] := by cases args; simp_all
  obtain ⟨p, rfl, rfl, rfl, hp⟩ := open_string Try.underlying9 (hval 0 9 v0 rfl rfl) h0
  obtain ⟨t, rfl, rfl, rfl, ht⟩ := open_string Try.underlying9 (hval 1 9 v1 rfl rfl) h1
  obtain ⟨a, b, rfl, rfl, rfl⟩ := open_two_strings Try.underlying28 (show Try.prog.cellsOf 9 = 1 by kernel_rfl) (show Try.prog.cellsOf 28 = 2 by kernel_rfl) Try.underlying9 (hval 2 28 v2 rfl rfl) h2
  have hp' := sized_string hsz (j := 0) rfl rfl
  have ht' := sized_string hsz (j := 1) rfl rfl
  have hw := List.all_eq_true.1 hsz
  have ha := hw a.data.toList.length (DataW.weights_mem_each (j := 2) rfl rfl _ (by simp [DataW.weights, DataW.weightsAll, Try.underlying28]))
  have hb := hw b.data.toList.length (DataW.weights_mem_each (j := 2) rfl rfl _ (by simp [DataW.weights, DataW.weightsAll, Try.underlying28]))
  exact chunkerEdit_any p t a b W (by simpa using hp') (by simpa using ht') (by simpa using ha) (by simpa using hb)
end Go.Proofs.Ytflkmifcmaeccaa
namespace Go.Proofs.Ytflkmifcmaeccaa
open Go.ChangeShapes Go.WideShapes Go.ChangeAt Go.RowKit
set_option maxRecDepth 100000 in
theorem ChunkerEdit_lifted (os : Os) (started : os.Started) (H : Type) (enc : TypeId × Value → H) :
    ReturnsInHanded {} Try.checked os 4 .any (Rows.chunkerEditSpec.pre6 enc Try.prog Try.f4 Rows.chunkerEditRow.domain false) (Rows.chunkerEditSpec.post enc Try.prog Try.f4 false true false false) := by
  refine returnsInHanded_of_change_sized (C := Try.checked) own started (by kernel_rfl) Try.func4
    (ChangeSpec.witness6 (enc := enc) (C := Try.checked) false ⟨#[], #[.string ⟨#[]⟩, .string ⟨#[]⟩, .agg #[.string ⟨#[]⟩, .string ⟨#[]⟩]], []⟩ 8 (by kernel_rfl) (by kernel_rfl) (by kernel_rfl) (by kernel_rfl)) ?_
  exact law_contract (by kernel_rfl) (by kernel_rfl) ⟨rfl, fun H ds h => by rw [Try.params4] at h; match ds, h with | [d0, d1, d2], _ => rfl⟩ ChunkerEdit_walk
theorem ChunkerEdit_over : Rows.chunkerEditRow.holds Try.pinned (OpenSpec.ofChange Rows.chunkerEditSpec) :=
  OpenClaim.holds_of_wide 4 Try.f4 rfl rfl rfl rfl rfl rfl rfl ⟨rfl, rfl, rfl, rfl, rfl⟩ rfl rfl rfl rfl rfl (by kernel_rfl) Try.func4 (by kernel_rfl)
    (of_decide_eq_true (by kernel_rfl)) (by unfold Func.isWrapper; first | (rw [if_pos (by decide +kernel)]; kernel_rfl) | (rw [if_neg (by decide +kernel)]; exact ⟨rfl, rfl⟩))
    (fun os started H enc _ => ChunkerEdit_lifted os started H enc)
theorem ChunkerEdit_proved : Rows.ChunkerEditSaid := ChunkerEdit_over
end Go.Proofs.Ytflkmifcmaeccaa
