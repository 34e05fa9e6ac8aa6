/- steleref34.Split returns what sparse.Split returns. Condition: at most a million bytes. -/
import Derived.Test.YtomlknjpaielgaaSparseSplit
namespace Go.Proofs.Ytomlknjpaielgaa
set_option maxRecDepth 100000
open Go.RowKit Go.Shelf Go.Proofs.Ytomlknjpaielgaa.Sparse

theorem segs_strs (s : ByteArray) (w : World) (hs : s.size ≤ 1000000) :
    Calls Try.prog 21 #[.string s] w fun e w' => ∃ v, e = .returned v ∧ Segs w' v (segs s.data.toList) ∧ Below w.heap.size w w' :=
  (segSplit_any s w hs).mono fun _ _ ⟨v, he, hr, hb⟩ => ⟨v, he, Segs.of_owns hr, hb⟩

/-- An append of one segment to a row that the call owns. -/
theorem wpList_append_seg {w0 wr : World} {ops : Array Oper} {rest : List Oper} {o : Oper} {a : Act} {Q : Exit → Act → World → Prop} (hgd : o.guard = none) (s x : Operand)
    (ho : o.op = .call { callee := .builtin .append, args := #[s, x], argTypes := #[47, 47] })
    {v : Value} {l : List Seg} {n : Nat} (hs : a.eval s = v) (hown : wr.ownsRow w0.heap.size 50 2 v n (segCells l)) (hbel : Below w0.heap.size w0 wr) {k : Int} {S : ByteArray} {d : List UInt8} (hSd : S = mkS d)
    (hx : a.eval x = .slice (some ⟨wr.heap.size, 0, none⟩) 1 1) (hn : n ≤ 2000000)
    (h : ∀ g cap w', w'.ownsRow w0.heap.size 50 2 (.slice (some ⟨g, 0, none⟩) (n + 1) cap) (n + 1) (segCells (l ++ [(k, d)])) → Below w0.heap.size w0 w' → wpList Try.prog ops Q rest (a.put o.dst (.slice (some ⟨g, 0, none⟩) (n + 1) cap)) w') :
    wpList Try.prog ops Q (o :: rest) a (wr.alloc (.cells #[.int .i64 k, .string S] 50)) := by
  subst hSd
  obtain ⟨i0, hi, hz0, hz1, hz2⟩ := info_parts Try.infoSeg
  have hsz := hbel.size
  refine wpList_append_own _ hgd s x 47 ho w0.heap.size 50 i0 (.agg #[.int .i64 0, .string ⟨#[]⟩]) 2 24 Try.underlying47 hi hz0 hz1 hz2 rfl (by decide) _ _ _ hs (hown.alloc _) ⟨wr.heap.size, 0, none⟩ 1 1 [.int .i64 k, .string (mkS d)] hx rfl (cell_two_new _ _ _ _) (by simp [Value.oneCell']) (by unfold maxLen; omega) (by omega) (by simp; omega) ?_
  intro v' w' hown' hgrow _
  obtain ⟨g, cap, rfl⟩ := ownsRow_succ hown'
  rw [← segCells_snoc] at hown'
  exact h g cap w' hown' ((hbel.alloc hsz _).grown hgrow (by simp; omega) (fun k hk => (hown.lt k hk).1))

set_option maxHeartbeats 1000000 in
theorem refSegs_own (s : ByteArray) (w : World) (hs : s.size ≤ 1000000) :
    Calls Try.prog 28 #[.string s] w fun e w' =>
      ∃ v, e = .returned v ∧ w'.ownsRow w.heap.size 50 2 v (segs s.data.toList).length (segCells (segs s.data.toList)) ∧ Below w.heap.size w w' := by
  go_enter Try.func28, Try.ntmps28
  go_wp2
  go_loopw [3, 4, 5] (fun v b e wr => ∃ (l : List Seg) (i j : Nat), b = .int .i64 i ∧ e = .int .i64 j ∧ i ≤ j ∧ j ≤ s.size ∧ Keep (segs s.data.toList = l ++ go ((s.data.toList.drop i).take (j - i)) (s.data.toList.drop j)) ∧ wr.ownsRow w.heap.size 50 2 v l.length (segCells l) ∧ Below w.heap.size w wr) (fun _ _ e _ => s.size - (intOf e).toNat)
  case atStart =>
    refine ⟨[], 0, 0, rfl, rfl, Nat.le_refl _, Nat.zero_le _, ⟨rfl⟩, ?_, (Below.refl _ _).alloc (Nat.le_refl _) _⟩
    exact World.ownsRow_made w #[] 0 (Nat.le_refl _) (by decide) rfl
  case round =>
    obtain ⟨l, i, j, rfl, rfl, hij, hj, hsp, hrow, hbel⟩ := hrel
    have hlenp : l.length ≤ 1000000 := by
      have h1 := congrArg List.length hsp.out
      have h2 := length_segs s.data.toList
      have h3 : s.data.toList.length = s.size := by simp
      rw [List.length_append] at h1
      omega
    have hsz := hbel.size
    have hmid := extract_mid s i j
    by_cases hlt : j < s.size
    · have hzle := zerosN_le (s.data.toList.drop j)
      have hdl : (s.data.toList.drop j).length = s.size - j := by simp
      have hne : s.data.toList.drop j ≠ [] := by intro h; rw [h] at hdl; simp at hdl; omega
      have hZ := refZeros_any s j
      by_cases hz : 32 ≤ zerosN (s.data.toList.drop j)
      · have hgo := go_hole (a := (s.data.toList.drop i).take (j - i)) hz
        rw [List.drop_drop] at hgo
        have HG := Keep.mk hgo
        rw [hdl] at hzle
        obtain ⟨a, ha⟩ : ∃ a, a = (s.data.toList.drop i).take (j - i) := ⟨_, rfl⟩
        have hal : a.length = j - i := by rw [ha]; simp; omega
        rw [← ha] at hmid HG hsp
        have HM := Keep.mk hmid
        clear hgo hne hdl ha hmid
        generalize hzd : zerosN (s.data.toList.drop j) = z at *
        clear hzd
        have hz' : (32 : Int) ≤ (z : Int) := by omega
        by_cases hi2 : i < j
        · have hi' : (i : Int) < (j : Int) := by omega
          go_wp2_with (first
            | (go_at_call 43; refine (hZ _ hs (by omega)).mono ?_; rintro e w' ⟨rfl, rfl⟩)
            | (at_builtin; refine wpList_append_seg (o := ⟨some 27, _, _, _, _, _⟩) rfl _ _ rfl rfl hrow hbel HM.out rfl (by omega) ?_; intro g1 cap1 w1 hrow1 hbel1)
            | (at_builtin; refine wpList_append_seg (o := ⟨some 32, _, _, _, _, _⟩) rfl _ _ rfl rfl hrow1 hbel1 (d := []) rfl rfl (by omega) ?_; intro g2 cap2 w2 hrow2 hbel2))
          go_roundw
          case rel =>
            refine ⟨l ++ [(0, a)] ++ [((z : Int), [])], j + z, j + z, by go_num, by go_num, Nat.le_refl _, by omega, ⟨?_⟩, ?_, hbel2⟩
            · rw [hsp.out, HG.out, Nat.sub_self, List.take_zero, dataL_ne (fun e => by rw [e] at hal; simp at hal; omega)]
              simp
            · rw [List.length_append, List.length_append]; exact hrow2
          case measure => simp [intOf]; omega
        · obtain rfl : i = j := by omega
          have ha0 : a = [] := List.eq_nil_of_length_eq_zero (by omega)
          have HA := Keep.mk ha0
          clear ha0
          go_wp2_with (first
            | (go_at_call 43; refine (hZ _ hs (by omega)).mono ?_; rintro e w' ⟨rfl, rfl⟩)
            | (at_builtin; refine wpList_append_seg (o := ⟨some 32, _, _, _, _, _⟩) rfl _ _ rfl rfl hrow hbel (d := []) rfl rfl (by omega) ?_; intro g2 cap2 w2 hrow2 hbel2))
          go_roundw
          case rel =>
            refine ⟨l ++ [((z : Int), [])], i + z, i + z, by go_num, by go_num, Nat.le_refl _, by omega, ⟨?_⟩, ?_, hbel2⟩
            · rw [hsp.out, HG.out, Nat.sub_self, List.take_zero, HA.out, dataL_nil]
              simp
            · rw [List.length_append]; exact hrow2
          case measure => simp [intOf]; omega
      · have hgo := go_step (a := (s.data.toList.drop i).take (j - i)) hne hz
        have hst1 := stepN_pos (s.data.toList.drop j)
        have hst2 := stepN_le hne
        have hmx : stepN (s.data.toList.drop j) = max (zerosN (s.data.toList.drop j)) 1 := rfl
        rw [List.drop_drop] at hgo
        have HG := Keep.mk hgo
        rw [hdl] at hst2 hzle
        clear hgo hne hdl hmid
        generalize stepN (s.data.toList.drop j) = st at *
        generalize zerosN (s.data.toList.drop j) = z at *
        have HMX := Keep.mk hmx
        have hz' : ¬ (32 : Int) ≤ (z : Int) := by omega
        clear hz hmx
        by_cases h0 : z = 0
        · have h0' : ((z : Int) == 0) = true := beq_iff_eq.2 (by omega)
          have h1 : st = 1 := by have := HMX.out; omega
          have H1 := Keep.mk h1
          clear h0 h1
          go_wp2_with (go_at_call 43; refine (hZ _ hs (by omega)).mono ?_; rintro e w' ⟨rfl, rfl⟩)
          go_roundw
          case rel =>
            refine ⟨l, i, j + st, rfl, by rw [H1.out]; go_num, by omega, by omega, ⟨?_⟩, hrow, hbel⟩
            rw [hsp.out, HG.out]
            congr 2
            rw [show j + st - i = (j - i) + st by omega, List.take_add, List.drop_drop, show i + (j - i) = j by omega]
          case measure => simp [intOf]; omega
        · have h0' : ((z : Int) == 0) = false := beq_eq_false_iff_ne.2 (by omega)
          have h1 : st = z := by have := HMX.out; omega
          have H1 := Keep.mk h1
          clear h0 h1
          go_wp2_with (go_at_call 43; refine (hZ _ hs (by omega)).mono ?_; rintro e w' ⟨rfl, rfl⟩)
          go_roundw
          case rel =>
            refine ⟨l, i, j + st, rfl, by rw [H1.out]; go_num, by omega, by omega, ⟨?_⟩, hrow, hbel⟩
            rw [hsp.out, HG.out]
            congr 2
            rw [show j + st - i = (j - i) + st by omega, List.take_add, List.drop_drop, show i + (j - i) = j by omega]
          case measure => simp [intOf]; have := H1.out; omega
    · obtain rfl : j = s.size := by omega
      have hdn : s.data.toList.drop s.size = [] := List.drop_of_length_le (by simp)
      have hsp2 := hsp.out
      rw [hdn, go_nil] at hsp2
      obtain ⟨a, ha⟩ : ∃ a, a = (s.data.toList.drop i).take (s.size - i) := ⟨_, rfl⟩
      have hal : a.length = s.size - i := by rw [ha]; simp
      rw [← ha] at hsp2 hmid
      have HS2 := Keep.mk hsp2
      have HM := Keep.mk hmid
      clear hsp2 hdn hmid ha
      by_cases hi2 : i < s.size
      · go_wp2_with (at_builtin; refine wpList_append_seg (o := ⟨some 51, _, _, _, _, _⟩) rfl _ _ rfl rfl hrow hbel HM.out rfl (by omega) ?_; intro g1 cap1 w1 hrow1 hbel1)
        go_ret
        refine ⟨_, rfl, ?_, hbel1⟩
        rw [HS2.out, dataL_ne (fun e => by rw [e] at hal; simp at hal; omega), List.length_append]
        exact hrow1
      · have ha0 : a = [] := List.eq_nil_of_length_eq_zero (by omega)
        have HA := Keep.mk ha0
        clear ha0
        go_wp2
        go_ret
        refine ⟨_, rfl, ?_, hbel⟩
        rw [HS2.out, HA.out, dataL_nil, List.append_nil]
        exact hrow

theorem refSegs_strs (s : ByteArray) (w : World) (hs : s.size ≤ 1000000) :
    Calls Try.prog 28 #[.string s] w fun e w' => ∃ v, e = .returned v ∧ Segs w' v (segs s.data.toList) ∧ Below w.heap.size w w' :=
  (refSegs_own s w hs).mono fun _ _ ⟨v, he, hr, hb⟩ => ⟨v, he, Segs.of_owns hr, hb⟩
end Go.Proofs.Ytomlknjpaielgaa
