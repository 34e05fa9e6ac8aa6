/- sparse.Split returns the segments of its argument in a new slice. Condition: at most a million bytes. -/
import Derived.Test.YtomlknjpaielgaaSparseZeros
import Derived.Maps.AppendAt
namespace Go.Proofs.Ytomlknjpaielgaa
set_option maxRecDepth 100000
open Go.RowKit Go.Shelf Go.Proofs.Ytomlknjpaielgaa.Sparse
attribute [local go_sem] Oper.semAt_some

theorem Try.infoSeg : (Try.prog.info? 50).map (fun i => (i.zero, i.size, i.bytes)) = some (some (.agg #[.int .i64 0, .string ⟨#[]⟩]), 2, 24) := by kernel_rfl

set_option maxHeartbeats 400000 in
theorem runs_any (s : ByteArray) (w : World) :
    Calls Try.prog 34 #[.string s] w fun e w' => e = .returned (.func (.func 46) #[] #[.pointer (some ⟨w.heap.size, 0, none⟩)]) ∧ w.alloc (.cells #[.string s] 9) = w' := by
  go_enter Try.func34, Try.ntmps34
  go_wp2
  go_ret
  exact ⟨rfl, rfl⟩

/-- A piece as the iterator hands it on: data, and the number of zeros behind it. -/
abbrev Piece := List UInt8 × Nat
def holeL (n : Nat) : List Seg := if n = 0 then [] else [((n : Int), [])]
def flatP (l : List Piece) : List Seg := l.flatMap fun p => dataL p.1 ++ holeL p.2
theorem flatP_snoc (l : List Piece) (a : List UInt8) (n : Nat) : flatP (l ++ [(a, n)]) = flatP l ++ (dataL a ++ holeL n) := by simp [flatP]

/-- What is held between two rounds: the box of the result; the box of the content; nothing below has turned. -/
def SegHeld (s : ByteArray) (w : World) (pre : List Piece) (W : World) : Prop :=
  ((∃ v, Boxed W w.heap.size 47 v ∧ W.ownsRow w.heap.size 50 2 v (flatP pre).length (segCells (flatP pre)) ∧ True) ∧ Below w.heap.size w W) ∧ Boxed W (w.heap.size + 1) 9 (.string s)
theorem segHeld_own (s : ByteArray) (w : World) : OwnFrom (w.heap.size + 2) (SegHeld s w) :=
  OwnFrom.and (OwnFrom.and (Own.from (holdsRow_own w.heap.size w.heap.size 47 50 2 (fun pre : List Piece => (flatP pre).length) (fun pre => segCells (flatP pre)) (fun _ _ => True)) _)
    (ownFrom_below (Nat.le_refl _) (by omega))) (Own.from (boxed_own (w.heap.size + 1) 9 (fun _ : List Piece => Value.string s)) _)

theorem extract_mid (s : ByteArray) (i j : Nat) : s.extract i j = mkS ((s.data.toList.drop i).take (j - i)) := by rw [Lib.extract_eq]; rfl

theorem cell_two_new (w : World) (a b : Value) (t : TypeId) : ∀ j u, [a, b][j]? = some u → (w.alloc (.cells #[a, b] t)).cell? ((⟨w.heap.size, 0, none⟩ : Addr).add j) = some u := by
  intro j u h
  have e : (w.alloc (.cells #[a, b] t)).heap[w.heap.size]? = some (.cells #[a, b] t) := World.alloc_heap_new w _
  match j, h with
  | 0, h => simp at h; subst h; rw [show (⟨w.heap.size, 0, none⟩ : Addr).add 0 = ⟨w.heap.size, 0, none⟩ from rfl, World.cell?]; simp only [e]; rfl
  | 1, h => simp at h; subst h; rw [show (⟨w.heap.size, 0, none⟩ : Addr).add 1 = ⟨w.heap.size, 1, none⟩ from rfl, World.cell?]; simp only [e]; rfl

theorem cell_two_at (w : World) (a b : Value) (t : TypeId) {N : Nat} (h : N = w.heap.size) : ∀ j u, [a, b][j]? = some u → (w.alloc (.cells #[a, b] t)).cell? ((⟨N, 0, none⟩ : Addr).add j) = some u := by
  subst h; exact cell_two_new w a b t

theorem segCells_snoc (l : List Seg) (n : Int) (d : List UInt8) : segCells (l ++ [(n, d)]) = segCells l ++ [.int .i64 n, .string (mkS d)] := by rw [segCells_append]; rfl
theorem dataL_ne {d : List UInt8} (h : d ≠ []) : dataL d = [(0, d)] := if_neg h
theorem dataL_nil : dataL [] = [] := rfl
theorem holeL_zero : holeL 0 = [] := rfl
theorem holeL_ne {n : Nat} (h : n ≠ 0) : holeL n = [((n : Int), [])] := if_neg h

theorem segStep {s : ByteArray} {w W w1 : World} {tmp : Obj} {l ys : List Seg} {k m : Nat} {v v' : Value} (hv : Boxed W w.heap.size 47 v) (hrow : W.ownsRow w.heap.size 50 2 v k (segCells l))
    (hbx : Boxed W (w.heap.size + 1) 9 (.string s)) (hbel : Below w.heap.size w W) (hown' : w1.ownsRow w.heap.size 50 2 v' m (segCells ys)) (hgrow : (W.alloc tmp).grownBy w1 v.ownBlock) :
    Boxed w1 w.heap.size 47 v ∧ Boxed (w1.setCell ⟨w.heap.size, 0, none⟩ v') w.heap.size 47 v' ∧ (w1.setCell ⟨w.heap.size, 0, none⟩ v').ownsRow w.heap.size 50 2 v' m (segCells ys) ∧
      Boxed (w1.setCell ⟨w.heap.size, 0, none⟩ v') (w.heap.size + 1) 9 (.string s) ∧ KeepsOthers W (w1.setCell ⟨w.heap.size, 0, none⟩ v') ∧ Below w.heap.size W (w1.setCell ⟨w.heap.size, 0, none⟩ v') := by
  obtain ⟨h1, h2, h3, h4, h5⟩ := hv.appended (by decide) hrow hbel.size (Nat.le_refl _) hown' hgrow
  exact ⟨h1, h2, h3, ((hbx.alloc tmp).kept hgrow (hbx.not_row (by decide) hrow)).other (by simp) _, h4, h5⟩

set_option maxHeartbeats 2000000 in
theorem segSplit_any (s : ByteArray) (w : World) (hs : s.size ≤ 1000000) :
    Calls Try.prog 21 #[.string s] w fun e w' =>
      ∃ v, e = .returned v ∧ w'.ownsRow w.heap.size 50 2 v (segs s.data.toList).length (segCells (segs s.data.toList)) ∧ Below w.heap.size w w' := by
  refine (callsIn_wide (n := 3)).1 ?_
  refine callsIn_of_wp_marks Try.func21 rfl trivial ?_ rfl
  simp only [Try.ntmps21, List.size_toArray, List.length_cons, List.length_nil, Nat.reduceAdd, Nat.reduceSub, Array.replicate_succ, Array.replicate_zero, List.push_toArray, List.append_toArray, List.nil_append, List.cons_append]
  gi_wp2_with (refine ⟨trivial, ?_⟩; gi_at_call 34; refine (callsIn_wide.2 (runs_any s _)).mono ?_; rintro e w' ⟨rfl, rfl⟩)
  have hb0 := Boxed.new w 47 (.slice none 0 0)
  have hb1 := Boxed.new (w.alloc (.cells #[.slice none 0 0] 47)) 9 (.string s)
  refine wpIn_range_c rfl (by decide) rfl trivial (enters_of Try.func46 (by kernel_rfl) rfl)
    (fun x : Piece => #[.string (mkS x.1), .int .i64 x.2]) (fun _ => rfl)
    (SegHeld s w) (fun _ _ _ => False) (fun pre _ => (flatP pre).length ≤ 1000000) (fun xs => flatP xs = segs s.data.toList) w.heap.size (by simp; omega)
    (by simpa using segHeld_own s w) (fun _ _ _ _ _ hs _ _ => hs)
    ⟨⟨⟨_, hb0.alloc _, (World.ownsRow_nil _ _ _ _), trivial⟩, ((Below.refl _ _).alloc (Nat.le_refl _) _).alloc (by simp) _⟩, by simpa using hb1⟩
    (fun x => { tmps := #[Value.string s, undef, Value.slice none 0 0, Value.pointer (some { block := w.heap.size, off := 0 }), .string (mkS x.1), .int .i64 x.2, Value.string s,
          Value.func (Fn.func 46) #[] #[Value.pointer (some { block := w.heap.size + 1, off := 0 })], .string (mkS x.1), .int .i64 x.2,
          undef, undef, undef, undef, undef, undef, undef, undef, undef, undef, undef, undef, undef, undef, undef], defers := [] }) ?assign ?body ?iter ?done ?stop
  case assign =>
    intro l x W K hK
    gi_wp2
    simpa using hK
  case body =>
    rintro l pre ⟨d, n⟩ W ⟨⟨⟨v, hv, hrow, _⟩, hbel⟩, hbx⟩ hlen
    have hc := hv.cell
    obtain ⟨i0, hi, hz0, hz1, hz2⟩ := info_parts Try.infoSeg
    have hsz := hbel.size
    obtain ⟨S, hS⟩ : ∃ S, S = mkS d := ⟨_, rfl⟩
    have hSd : S.toList = d := by rw [hS, Lib.toList_data, data_mkS]
    rw [← hS]
    by_cases hd : d = []
    · have hde : S.toList.isEmpty = true := by rw [hSd, hd]; rfl
      have HD := Keep.mk hd
      clear hd hSd hS
      by_cases hn : n = 0
      · have HN := Keep.mk hn
        have hn' : ¬ (0 : Int) < (n : Int) := by omega
        clear hn
        gi_wp2
        refine ⟨(KeepsOthers.refl W).from _, Below.refl _ _, ⟨⟨_, hv, ?_, trivial⟩, hbel⟩, hbx⟩
        rw [flatP_snoc, HD.out, HN.out, dataL_nil, holeL_zero, List.append_nil, List.append_nil]
        exact hrow
      · have HN := Keep.mk hn
        have hn' : (0 : Int) < (n : Int) := by omega
        clear hn
        gi_wp2_with (gi_at_builtin; refine wpListIn_append_own (o := ⟨some 23, _, _, _, _, _⟩) _ rfl _ _ 47 rfl w.heap.size 50 i0 (.agg #[.int .i64 0, .string ⟨#[]⟩]) 2 24 Try.underlying47 hi hz0 hz1 hz2 rfl (by decide) _ _ _ rfl (hrow.alloc _) ⟨W.heap.size, 0, none⟩ 1 1 [.int .i64 n, .string ⟨#[]⟩] rfl rfl (cell_two_at _ _ _ _ (by simp)) (by simp [Value.oneCell']) (by unfold maxLen; omega) (by omega) (by simp; omega) ?_; intro v3 w3 hown3 hgrow3 _; obtain ⟨g3, cap3, rfl⟩ := ownsRow_succ hown3; have hcat := segCells_snoc (flatP pre) n []; rw [show mkS [] = ⟨#[]⟩ from rfl] at hcat; rw [← hcat] at hown3; obtain ⟨hv3, hv4, hr4, hx4, hk4, hb4⟩ := segStep hv hrow hbx hbel hown3 hgrow3; have hc3 := hv3.cell; have hf3 := hv3.frozen)
        refine ⟨hk4.from _, hb4, ⟨⟨_, hv4, ?_, trivial⟩, hbel.trans hb4⟩, hx4⟩
        rw [flatP_snoc, HD.out, holeL_ne HN.out, dataL_nil, List.nil_append, List.length_append]
        exact hr4
    · have hde : S.toList.isEmpty = false := by rw [hSd, List.isEmpty_eq_false_iff]; exact hd
      have HD := Keep.mk hd
      have HS := Keep.mk hS
      clear hd hSd hS
      by_cases hn : n = 0
      · have HN := Keep.mk hn
        have hn' : ¬ (0 : Int) < (n : Int) := by omega
        clear hn
        gi_wp2_with (gi_at_builtin; refine wpListIn_append_own (o := ⟨some 16, _, _, _, _, _⟩) _ rfl _ _ 47 rfl w.heap.size 50 i0 (.agg #[.int .i64 0, .string ⟨#[]⟩]) 2 24 Try.underlying47 hi hz0 hz1 hz2 rfl (by decide) _ _ _ rfl (hrow.alloc _) ⟨W.heap.size, 0, none⟩ 1 1 [.int .i64 0, .string S] rfl rfl (cell_two_at _ _ _ _ (by simp)) (by simp [Value.oneCell']) (by unfold maxLen; omega) (by omega) (by simp; omega) ?_; intro v1 w1 hown1 hgrow1 _; obtain ⟨g1, cap1, rfl⟩ := ownsRow_succ hown1; rw [HS.out, ← segCells_snoc] at hown1; obtain ⟨hv1, hv2, hr2, hx2, hk2, hb2⟩ := segStep hv hrow hbx hbel hown1 hgrow1; have hc1 := hv1.cell; have hf1 := hv1.frozen; have hc2 := hv2.cell)
        refine ⟨hk2.from _, hb2, ⟨⟨_, hv2, ?_, trivial⟩, hbel.trans hb2⟩, hx2⟩
        rw [flatP_snoc, HN.out, holeL_zero, dataL_ne HD.out, List.append_nil, List.length_append]
        exact hr2
      · have HN := Keep.mk hn
        have hn' : (0 : Int) < (n : Int) := by omega
        clear hn
        gi_wp2_with (first | (gi_at_builtin; refine wpListIn_append_own (o := ⟨some 16, _, _, _, _, _⟩) _ rfl _ _ 47 rfl w.heap.size 50 i0 (.agg #[.int .i64 0, .string ⟨#[]⟩]) 2 24 Try.underlying47 hi hz0 hz1 hz2 rfl (by decide) _ _ _ rfl (hrow.alloc _) ⟨W.heap.size, 0, none⟩ 1 1 [.int .i64 0, .string S] rfl rfl (cell_two_at _ _ _ _ (by simp)) (by simp [Value.oneCell']) (by unfold maxLen; omega) (by omega) (by simp; omega) ?_; intro v1 w1 hown1 hgrow1 _; obtain ⟨g1, cap1, rfl⟩ := ownsRow_succ hown1; rw [HS.out, ← segCells_snoc] at hown1; obtain ⟨hv1, hv2, hr2, hx2, hk2, hb2⟩ := segStep hv hrow hbx hbel hown1 hgrow1; have hc1 := hv1.cell; have hf1 := hv1.frozen; have hc2 := hv2.cell) | (gi_at_builtin; refine wpListIn_append_own (o := ⟨some 23, _, _, _, _, _⟩) _ rfl _ _ 47 rfl w.heap.size 50 i0 (.agg #[.int .i64 0, .string ⟨#[]⟩]) 2 24 Try.underlying47 hi hz0 hz1 hz2 rfl (by decide) _ _ _ rfl (hr2.alloc _) ⟨w1.heap.size, 0, none⟩ 1 1 [.int .i64 n, .string ⟨#[]⟩] rfl rfl (cell_two_at _ _ _ _ (by simp)) (by simp [Value.oneCell']) (by unfold maxLen; omega) (by omega) (by have := hb2.size; simp at this; simp; omega) ?_; intro v3 w3 hown3 hgrow3 _; obtain ⟨g3, cap3, rfl⟩ := ownsRow_succ hown3; have hcat := segCells_snoc (flatP pre ++ [(0, d)]) n []; rw [show mkS [] = ⟨#[]⟩ from rfl] at hcat; rw [← hcat] at hown3; obtain ⟨hv3, hv4, hr4, hx4, hk4, hb4⟩ := segStep hv2 hr2 hx2 (hbel.trans hb2) hown3 hgrow3; have hc3 := hv3.cell; have hf3 := hv3.frozen))
        refine ⟨(hk2.trans hk4).from _, hb2.trans hb4, ⟨⟨_, hv4, ?_, trivial⟩, hbel.trans (hb2.trans hb4)⟩, hx4⟩
        rw [flatP_snoc, holeL_ne HN.out, dataL_ne HD.out, ← List.append_assoc, List.length_append, List.length_append]
        exact hr4
  case iter =>
    intro l L Lx W1 hL hsz hb1 hI1 hL1 hY
    refine callsIn_of_wp Try.func46 rfl trivial ?_ rfl
    simp only [Try.ntmps46, List.size_toArray, List.length_cons, List.length_nil, Nat.reduceAdd, Nat.reduceSub, Array.replicate_succ, Array.replicate_zero, List.push_toArray, List.append_toArray, List.nil_append, List.cons_append]
    have hbx1 := hI1.2.cell
    gi_wp2
    gi_loopw [3, 4] (fun b e wr => ∃ (pre : List Piece) (i j : Nat), b = .int .i64 i ∧ e = .int .i64 j ∧ i ≤ j ∧ j ≤ s.size ∧ Keep (segs s.data.toList = flatP pre ++ go ((s.data.toList.drop i).take (j - i)) (s.data.toList.drop j)) ∧ SegHeld s w pre wr ∧ L wr)
      (fun _ e _ => s.size - (intOf e).toNat)
    case atStart =>
      exact ⟨[], 0, 0, rfl, rfl, Nat.le_refl _, Nat.zero_le _, ⟨rfl⟩, hI1, hL1⟩
    case round =>
      obtain ⟨pre, i, j, rfl, rfl, hij, hj, hsp, hheld, hLr⟩ := hrel
      have hcb := hheld.2.cell
      have hlenp : (flatP pre).length ≤ 1000000 := by
        have h1 := congrArg List.length hsp.out
        have h2 := length_segs s.data.toList
        have h3 : s.data.toList.length = s.size := by simp
        rw [List.length_append] at h1
        omega
      have hmid := extract_mid s i j
      by_cases hlt : j < s.size
      · have hsz2 : (s.extract j s.size).size ≤ maxLen := by rw [extract_drop, size_mkS, List.length_drop]; unfold maxLen; simp; omega
        have hZ : Calls Try.prog 47 #[.string (s.extract j s.size)] wr fun e w' => e = .returned (.int .i64 (zerosN (s.data.toList.drop j))) ∧ wr = w' := by
          have := zeros_any (s.extract j s.size) wr hsz2
          rw [extract_drop, data_mkS] at this
          rw [extract_drop]; exact this
        have hzle := zerosN_le (s.data.toList.drop j)
        have hdl : (s.data.toList.drop j).length = s.size - j := by simp
        have hne : s.data.toList.drop j ≠ [] := by intro h; rw [h] at hdl; simp at hdl; omega
        by_cases hz : 32 ≤ zerosN (s.data.toList.drop j)
        · have hgo := go_hole (a := (s.data.toList.drop i).take (j - i)) hz
          rw [List.drop_drop] at hgo
          have hYY := hY pre ((s.data.toList.drop i).take (j - i), zerosN (s.data.toList.drop j)) wr hheld hLr hlenp
          dsimp only at hYY
          rw [← hmid] at hYY
          have HG := Keep.mk hgo
          have hnz : zerosN (s.data.toList.drop j) ≠ 0 := by omega
          have HNZ := Keep.mk hnz
          rw [hdl] at hzle
          clear hgo hmid hnz hne hdl hsz2
          generalize hzd : zerosN (s.data.toList.drop j) = z at *
          have HZD := Keep.mk hzd
          clear hzd
          have hz' : (32 : Int) ≤ (z : Int) := by omega
          obtain ⟨fn, tmps, assign, body, hy, hR⟩ := hYY
          gi_wp2_with (refine ⟨trivial, ?_⟩; gi_at_call 47; refine (callsIn_wide.2 hZ).mono ?_; rintro e w' ⟨rfl, rfl⟩)
          refine hR.mono ?_
          rintro e W3 (⟨rfl, hH3, hL3, hk3⟩ | ⟨rfl, hx3⟩)
          · have hcb3 := hH3.2.cell
            gi_wp2
            go_roundw
            case rel =>
              refine ⟨_, j + z, j + z, by go_num, by go_num, Nat.le_refl _, by omega, ⟨?_⟩, hH3, hL3⟩
              rw [hsp.out, HG.out, flatP_snoc, holeL_ne HNZ.out, Nat.sub_self, List.take_zero]
              simp
            case measure => simp [intOf]; omega
          · gi_wp2
            refine bodyPost_ret (results_none rfl _ _ _) rfl ?_
            exact ⟨⟨_, rfl⟩, .inr ⟨_, hx3⟩⟩
        · have hgo := go_step (a := (s.data.toList.drop i).take (j - i)) hne hz
          have hst1 := stepN_pos (s.data.toList.drop j)
          have hst2 := stepN_le hne
          have hmx : max ((zerosN (s.data.toList.drop j) : Nat) : Int) 1 = ((stepN (s.data.toList.drop j) : Nat) : Int) := by unfold stepN; omega
          rw [List.drop_drop] at hgo
          have HG := Keep.mk hgo
          rw [hdl] at hst2 hzle
          clear hgo hne hdl hsz2 hmid hY
          generalize stepN (s.data.toList.drop j) = st at *
          generalize zerosN (s.data.toList.drop j) = z at *
          have hz' : ¬ (32 : Int) ≤ (z : Int) := by omega
          clear hz
          gi_wp2_with (refine ⟨trivial, ?_⟩; gi_at_call 47; refine (callsIn_wide.2 hZ).mono ?_; rintro e w' ⟨rfl, rfl⟩)
          go_roundw
          case rel =>
            refine ⟨pre, i, j + st, rfl, by go_num, by omega, by omega, ⟨?_⟩, hheld, hLr⟩
            rw [hsp.out, HG.out]
            congr 2
            rw [show j + st - i = (j - i) + st by omega, List.take_add, List.drop_drop, show i + (j - i) = j by omega]
          case measure => simp [intOf]; omega
      · obtain rfl : j = s.size := by omega
        have hdn : s.data.toList.drop s.size = [] := List.drop_of_length_le (by simp)
        have hsp2 := hsp.out
        rw [hdn, go_nil] at hsp2
        have HS2 := Keep.mk hsp2
        clear hsp2 hdn
        by_cases hi : i < s.size
        · have hYY := hY pre ((s.data.toList.drop i).take (s.size - i), 0) wr hheld hLr hlenp
          dsimp only at hYY
          rw [← hmid, show ((0 : Nat) : Int) = 0 from rfl] at hYY
          clear hmid
          obtain ⟨fn, tmps, assign, body, hy, hR⟩ := hYY
          gi_wp2
          refine hR.mono ?_
          rintro e W3 (⟨rfl, hH3, hL3, hk3⟩ | ⟨rfl, hx3⟩)
          · gi_wp2
            go_end0
            refine ⟨⟨_, rfl⟩, .inl ⟨_, ?_, hH3, hL3⟩⟩
            rw [flatP_snoc, holeL_zero, List.append_nil]
            exact HS2.out.symm
          · gi_wp2
            go_end0
            exact ⟨⟨_, rfl⟩, .inr ⟨_, hx3⟩⟩
        · have hi' : ¬ (i : Int) < (s.size : Int) := by omega
          clear hY hmid
          gi_wp2
          go_end0
          refine ⟨⟨_, rfl⟩, .inl ⟨pre, ?_, hheld, hLr⟩⟩
          rw [HS2.out, show s.size - i = 0 by omega, List.take_zero, dataL_nil, List.append_nil]
  case done =>
    rintro D xs W hD hxs ⟨⟨⟨v, hv, hrow, _⟩, hbel⟩, hbx⟩ hK
    have hcv := hv.cell
    gi_wp2
    refine ⟨by simp, .inl ⟨_, _, rfl, run_takeDeferred hK, ?_⟩⟩
    refine ⟨_, results_tmp rfl _ _ _, v, rfl, ?_, ?_⟩
    · rw [hxs] at hrow
      exact ownsRow_putObj hrow _ hK rfl
    · exact hbel.trans (belowK_b (w := w) (n₀ := w.heap.size) (Nat.le_refl _) W D _ _ (by simp at hD; omega) hK rfl rfl)
  case stop =>
    rintro D c pre W _ h _
    exact h.elim
end Go.Proofs.Ytomlknjpaielgaa
