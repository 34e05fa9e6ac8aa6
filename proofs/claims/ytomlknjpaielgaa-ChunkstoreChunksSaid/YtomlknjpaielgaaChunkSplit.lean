/- chunker.Split returns the chunks of its argument in a new slice. Condition: the string's own bound. -/
import Derived.Test.YtomlknjpaielgaaChunkFirst
import Derived.Maps.AppendAt
import Derived.Test.YtomlknjpaielgaaStrs
namespace Go.Proofs.Ytomlknjpaielgaa
set_option maxRecDepth 100000
open Go.RowKit Go.Shelf Go.Proofs.Ytomlknjpaielgaa.Chunk
attribute [local go_sem] Oper.semAt_some

theorem Try.infoStr : (Try.prog.info? 9).map (fun i => (i.zero, i.size, i.bytes)) = some (some (.string ⟨#[]⟩), 1, 16) := by kernel_rfl

/-- The chunks of a string, as strings. -/
def chunkS (l : List UInt8) : List ByteArray := (split l).map mkS
theorem chunkS_nil : chunkS [] = [] := rfl
theorem chunkS_cons {l : List UInt8} (e : l ≠ []) : chunkS l = mkS (l.take (first l)) :: chunkS (l.drop (first l)) := by simp only [chunkS, split_cons e, List.map_cons]
theorem chunkS_length (l : List UInt8) : (chunkS l).length ≤ l.length := by simpa [chunkS] using split_length l

set_option maxHeartbeats 400000 in
theorem chunks_any (s : ByteArray) (w : World) :
    Calls Try.prog 36 #[.string s] w fun e w' => e = .returned (.func (.func 49) #[] #[.pointer (some ⟨w.heap.size, 0, none⟩)]) ∧ w.alloc (.cells #[.string s] 9) = w' := by
  go_enter Try.func36, Try.ntmps36
  go_wp2
  go_ret
  exact ⟨rfl, rfl⟩

/-- What is held between two rounds of AppendSeq: the box of the result, and that nothing below the iterator's own box has turned. -/
def SeqHeld (B : Nat) (w : World) (pre : List ByteArray) (W : World) : Prop :=
  (∃ v, Boxed W w.heap.size 22 v ∧ W.ownsRow w.heap.size 9 1 v pre.length (pre.map Value.string) ∧ True) ∧ Below B w W

theorem seqHeld_own {B : Nat} {w : World} (hB : B ≤ w.heap.size) : OwnFrom (w.heap.size + 1) (SeqHeld B w) :=
  OwnFrom.and (Own.from (holdsRow_own w.heap.size w.heap.size 22 9 1 (fun pre : List ByteArray => pre.length) (fun pre => pre.map Value.string) (fun _ _ => True)) _)
    (ownFrom_below hB (by omega))

theorem seqHeld_set {B : Nat} {w W : World} {pre : List ByteArray} (hB : B < w.heap.size) (h : SeqHeld B w pre W) (u : Value) : SeqHeld B w pre (W.setCell ⟨B, 0, none⟩ u) := by
  obtain ⟨⟨v, hv, hr, _⟩, hb⟩ := h
  exact ⟨⟨v, hv.other (by omega) u, ownsRow_setCell_below hr (a := ⟨B, 0, none⟩) hB u, trivial⟩, hb.setCell (p := ⟨B, 0, none⟩) (Nat.le_refl _) u⟩

def boxSize (B : Nat) (W : World) : Nat := match W.cell? ⟨B, 0, none⟩ with | some (.string r) => r.size | _ => 0
theorem boxSize_eq {B : Nat} {W : World} {t : TypeId} {r : ByteArray} (h : Boxed W B t (.string r)) : boxSize B W = r.size := by simp [boxSize, h.cell]

set_option maxHeartbeats 1000000 in
theorem appendSeq_chunks (s : ByteArray) (B : Nat) (w : World) (hs : s.size ≤ 1000000) (hB : Boxed w B 9 (.string s)) :
    Calls Try.prog 48 #[.slice none 0 0, .func (.func 49) #[] #[.pointer (some ⟨B, 0, none⟩)]] w fun e w' =>
      ∃ v, e = .returned v ∧ w'.ownsRow w.heap.size 9 1 v (chunkS s.data.toList).length ((chunkS s.data.toList).map Value.string) ∧ Below B w w' := by
  have hBlt := hB.lt
  refine (callsIn_wide (n := 3)).1 ?_
  refine callsIn_of_wp_marks Try.func48 rfl trivial ?_ rfl
  simp only [Try.ntmps48, List.size_toArray, List.length_cons, List.length_nil, Nat.reduceAdd, Nat.reduceSub, Array.replicate_succ, Array.replicate_zero, List.push_toArray, List.append_toArray, List.nil_append, List.cons_append]
  gi_wp2
  have hb0 := Boxed.new w 22 (.slice none 0 0)
  refine wpIn_range_c rfl (by decide) rfl trivial (enters_of Try.func49 (by kernel_rfl) rfl)
    (fun x : ByteArray => #[.string x]) (fun _ => rfl)
    (SeqHeld B w) (fun _ _ _ => False) (fun pre _ => pre.length < 1000000) (fun xs => xs = chunkS s.data.toList) w.heap.size (by simp)
    (by simpa using seqHeld_own (w := w) (B := B) (by omega)) (fun _ _ _ _ _ hs _ _ => hs)
    ⟨⟨_, hb0, World.ownsRow_nil _ _ _ _, trivial⟩, (Below.refl _ _).alloc (by omega) _⟩
    (fun x => { tmps := #[Value.slice none 0 0, Value.func (Fn.func 49) #[] #[Value.pointer (some { block := B, off := 0 })],
          Value.pointer (some { block := w.heap.size, off := 0 }), undef, Value.slice none 0 0, .string x,
          Value.func (Fn.func 49) #[] #[Value.pointer (some { block := B, off := 0 })], .string x, undef, undef, undef,
          undef, undef], defers := [] }) ?assign ?body ?iter ?done ?stop
  case assign =>
    intro l x W K hK
    gi_wp2
    exact hK
  case body =>
    rintro l pre x W ⟨⟨v, hv, hrow, _⟩, hbel⟩ hlen
    have hc := hv.cell
    obtain ⟨i0, hi, hz0, hz1, hz2⟩ := info_parts Try.infoStr
    gi_wp2_with (gi_at_builtin; refine wpListIn_append_own _ rfl _ _ 22 rfl w.heap.size 9 i0 (.string ⟨#[]⟩) 1 16 Try.underlying22 hi hz0 hz1 hz2 rfl (by decide) _ _ _ rfl (hrow.alloc _) ⟨W.heap.size, 0, none⟩ 1 1 [.string x] rfl rfl (cell_one_new _ _ _) (by simp [Value.oneCell']) (by unfold maxLen; omega) (by omega) (by have := hbel.size; simp; omega) ?_; intro v' w1 hown' hgrow _; obtain ⟨g', cap', rfl⟩ := ownsRow_succ hown'; obtain ⟨hv1, hv2, hr2, hk2, hb2⟩ := hv.appended (by decide) hrow hbel.size (Nat.le_refl _) hown' hgrow; have hc1 := hv1.cell; have hf1 := hv1.frozen)
    exact ⟨hk2.from _, hb2, ⟨_, hv2, by simpa using hr2, trivial⟩, hbel.trans (hb2.mono (by omega))⟩
  case iter =>
    intro l L Lx W1 hL hsz hb1 hI1 hL1 hY
    have hbox1 : Boxed W1 B 9 (.string s) := (hb1.block B (by simp; omega)).trans (hB.alloc _)
    refine callsIn_of_wp Try.func49 rfl trivial ?_ rfl
    simp only [Try.ntmps49, List.size_toArray, List.length_cons, List.length_nil, Nat.reduceAdd, Nat.reduceSub, Array.replicate_succ, Array.replicate_zero, List.push_toArray, List.append_toArray, List.nil_append, List.cons_append]
    gi_wp2
    gi_loopw [3] (fun _ wr => ∃ (pre : List ByteArray) (r : ByteArray), Keep (chunkS s.data.toList = pre ++ chunkS r.data.toList) ∧ r.size ≤ s.size ∧ Boxed wr B 9 (.string r) ∧ SeqHeld B w pre wr ∧ L wr)
      (fun _ wr => boxSize B wr)
    case atStart =>
      exact ⟨[], s, ⟨rfl⟩, Nat.le_refl _, hbox1, hI1, hL1⟩
    case round =>
      obtain ⟨pre, r, hsp, hrs, hbx, hheld, hLr⟩ := hrel
      have hcb := hbx.cell
      by_cases hr0 : r.data.toList = []
      · have hz : r.toList.isEmpty = true := by rw [Lib.toList_data, hr0]; rfl
        gi_wp2
        go_end0
        refine ⟨⟨_, rfl⟩, .inl ⟨pre, ?_, hheld, hLr⟩⟩
        have := hsp.out
        rw [hr0, chunkS_nil, List.append_nil] at this
        exact this.symm
      · have hz : r.toList.isEmpty = false := by rw [Lib.toList_data, List.isEmpty_eq_false_iff]; exact hr0
        have hfl := first_le r.data.toList
        have hfp := first_pos hr0
        have hrl : r.data.toList.length = r.size := by simp
        obtain ⟨fn, tmps, assign, body, hy, hR⟩ := hY pre (r.extract 0 (first r.data.toList)) wr hheld hLr (by
          have h1 := congrArg List.length hsp.out
          have h2 := chunkS_length s.data.toList
          rw [chunkS_cons hr0] at h1
          simp only [List.length_append, List.length_cons] at h1
          have h3 : s.data.toList.length = s.size := by simp
          omega)
        gi_wp2_with (refine ⟨trivial, ?_⟩; gi_at_call 50; refine (callsIn_wide.2 (first_any r _ (by unfold maxLen; omega))).mono ?_; rintro e w' ⟨rfl, rfl⟩)
        refine hR.mono ?_
        rintro e W3 (⟨rfl, hH3, hL3, hk3⟩ | ⟨rfl, hx3⟩)
        · have hbx3 : Boxed W3 B 9 (.string r) := (hk3.block B hBlt).trans hbx
          have hcb3 := hbx3.cell
          have hcf3 := hbx3.frozen
          gi_wp2
          go_roundw
          case rel =>
            refine ⟨pre ++ [r.extract 0 (first r.data.toList)], r.extract (first r.data.toList) r.size, ⟨?_⟩, ?_, hbx3.set _, seqHeld_set hBlt hH3 _, hL _ _ hL3 (KeepsOthers.setCell _ _ _)⟩
            · rw [hsp.out, chunkS_cons hr0, extract_take, extract_drop, data_mkS, List.append_assoc]; rfl
            · rw [extract_drop, size_mkS, List.length_drop]; omega
          case measure =>
            rw [boxSize_eq (hbx3.set _), boxSize_eq hbx, extract_drop, size_mkS, List.length_drop]; omega
        · gi_wp2
          refine bodyPost_ret (results_none rfl _ _ _) rfl ?_
          exact ⟨⟨_, rfl⟩, .inr ⟨_, hx3⟩⟩
  case done =>
    rintro D xs W hD hxs ⟨⟨v, hv, hrow, _⟩, hbel⟩ hK
    have hcv := hv.cell
    gi_wp2
    refine ⟨by simp, .inl ⟨_, _, rfl, run_takeDeferred hK, ?_⟩⟩
    refine ⟨_, results_tmp rfl _ _ _, v, rfl, ?_, ?_⟩
    · subst hxs
      exact ownsRow_putObj hrow _ hK rfl
    · exact hbel.trans (belowK_b (w := w) (n₀ := B) (by omega) W D _ _ (by simp at hD; omega) hK rfl rfl)
  case stop =>
    rintro D c pre W _ h _
    exact h.elim

set_option maxHeartbeats 400000 in
theorem split_any (s : ByteArray) (w : World) (hs : s.size ≤ 1000000) :
    Calls Try.prog 22 #[.string s] w fun e w' =>
      ∃ v, e = .returned v ∧ w'.ownsRow w.heap.size 9 1 v (chunkS s.data.toList).length ((chunkS s.data.toList).map Value.string) ∧ Below w.heap.size w w' := by
  go_enter Try.func22, Try.ntmps22
  go_wp2_with (go_at_call 36; refine (chunks_any _ _).mono ?_; rintro e w' ⟨rfl, rfl⟩)
  go_enter Try.func35, Try.ntmps35
  go_wp2_with fail
  refine (appendSeq_chunks s w.heap.size _ hs (Boxed.new w _ _)).mono ?_
  rintro e w1 ⟨v, rfl, hrow, hb⟩
  have hz : w.heap.size ≤ w1.heap.size := by have := hb.size; simp at this; omega
  go_wp2_with (fail)
  go_ret
  exact ⟨v, rfl, ownsRow_base hrow (by simp), ((Below.refl _ w).alloc (Nat.le_refl _) _).trans hb⟩

/-- chunker.Split, its result read as a list. -/
theorem split_strs (s : ByteArray) (w : World) (hs : s.size ≤ 1000000) :
    Calls Try.prog 22 #[.string s] w fun e w' => ∃ v, e = .returned v ∧ Strs w' v (chunkS s.data.toList) ∧ Below w.heap.size w w' :=
  (split_any s w hs).mono fun _ _ ⟨v, h1, h2, h3⟩ => ⟨v, h1, Strs.of_owns h2, h3⟩
end Go.Proofs.Ytomlknjpaielgaa
