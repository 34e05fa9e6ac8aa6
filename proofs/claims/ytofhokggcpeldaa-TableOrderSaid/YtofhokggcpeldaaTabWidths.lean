/- table.Widths returns the widths of the columns in a new slice. Condition: the rows' lengths. -/
import Derived.Test.YtofhokggcpeldaaTabRows
import Derived.Test.YtofhokggcpeldaaRoundTail
import Derived.Test.YtofhokggcpeldaaSlc
namespace Go.Proofs.Ytofhokggcpeldaa
open Go.RowKit Go.Shelf Go.Proofs.Ytofhokggcpeldaa.Table
attribute [local go_sem] Oper.semAt_some

theorem Try.infoInt : (Try.prog.info? 3).map (fun i => (i.zero, i.size, i.bytes)) = some (some (.int .i64 0), 1, 8) := by kernel_rfl

set_option maxHeartbeats 400000 in
theorem cells_any (a : Option Addr) (n c : Nat) (w : World) :
    Calls Try.prog 18 #[.slice a n c] w fun e w' => e = .returned (.func (.func 24) #[] #[.pointer (some ⟨w.heap.size, 0, none⟩)]) ∧ w.alloc (.cells #[.slice a n c] 22) = w' := by
  go_enter Try.func18, Try.ntmps18
  go_wp2
  go_ret
  exact ⟨rfl, rfl⟩

theorem widths_take_succ {rows : List Row} {m : Nat} {r : Row} (h : rows[m]? = some r) : widths (rows.take (m + 1)) = wrow (widths (rows.take m)) (lens r) := by
  rw [List.take_add_one, h]; exact widths_snoc _ _
/-- The widths behind some cells. -/
def wfold (pre : List (Nat × ByteArray)) : List Nat := pre.foldl (fun o x => wset o x.1 x.2.size) []
theorem wfold_snoc (pre : List (Nat × ByteArray)) (x : Nat × ByteArray) : wfold (pre ++ [x]) = wset (wfold pre) x.1 x.2.size := by simp [wfold]
theorem lens_take_succ {r : Row} {k : Nat} {c : ByteArray} (h : r[k]? = some c) : lens (r.take (k + 1)) = lens (r.take k) ++ [c.size] := by
  rw [List.take_add_one, h]; simp [lens]
theorem wset_new (o : List Nat) (n : Nat) : wset o o.length n = (o ++ [1]).set o.length (max 1 n) := by
  unfold wset; rw [if_pos rfl]; simp [List.getD_eq_getElem?_getD]
theorem wset_old {o : List Nat} {k : Nat} (h : k ≠ o.length) (n : Nat) : wset o k n = o.set k (max (o.getD k 0) n) := by
  unfold wset; rw [if_neg h]

theorem intCells_last (o : List Nat) : (intCells (o ++ [1]))[o.length]? = some (.int .i64 1) := by
  rw [intCells_snoc, List.getElem?_append_right (by rw [intCells_length]; omega), intCells_length, Nat.sub_self]; rfl

/-- What is held between two rounds: the box of the result; that of the rows; nothing below has turned. -/
def TabHeld (v : Value) (w : World) (pre : List (Nat × ByteArray)) (W : World) : Prop :=
  ((∃ x, Boxed W w.heap.size 25 x ∧ W.ownsRow w.heap.size 3 1 x (wfold pre).length (intCells (wfold pre)) ∧ True) ∧ Below w.heap.size w W) ∧ Boxed W (w.heap.size + 1) 22 v
theorem tabHeld_own (v : Value) (w : World) : OwnFrom (w.heap.size + 2) (TabHeld v w) :=
  OwnFrom.and (OwnFrom.and (Own.from (holdsRow_own w.heap.size w.heap.size 25 3 1 (fun pre : List (Nat × ByteArray) => (wfold pre).length) (fun pre => intCells (wfold pre)) (fun _ _ => True)) _)
    (ownFrom_below (Nat.le_refl _) (by omega))) (Own.from (boxed_own (w.heap.size + 1) 22 (fun _ : List (Nat × ByteArray) => v)) _)

/-- A store into the row that the box holds. -/
theorem tabStore {w W : World} {v : Value} {o : List Nat} {g cap n : Nat} (k u : Nat) (hn : n = o.length) (hv : Boxed W w.heap.size 25 (.slice (some ⟨g, 0, none⟩) n cap)) (hrow : W.ownsRow w.heap.size 3 1 (.slice (some ⟨g, 0, none⟩) n cap) n (intCells o))
    (hbx : Boxed W (w.heap.size + 1) 22 v) :
    Boxed (W.drew.setCell ⟨g, k, none⟩ (.int .i64 u)) w.heap.size 25 (.slice (some ⟨g, 0, none⟩) n cap) ∧
      (W.drew.setCell ⟨g, k, none⟩ (.int .i64 u)).ownsRow w.heap.size 3 1 (.slice (some ⟨g, 0, none⟩) n cap) (o.set k u).length (intCells (o.set k u)) ∧
      Boxed (W.drew.setCell ⟨g, k, none⟩ (.int .i64 u)) (w.heap.size + 1) 22 v ∧ KeepsOthers W (W.drew.setCell ⟨g, k, none⟩ (.int .i64 u)) ∧ Below w.heap.size W (W.drew.setCell ⟨g, k, none⟩ (.int .i64 u)) := by
  obtain ⟨h1, h2⟩ := World.ownsRow.stored (w := W.drew) hrow k (.int .i64 u)
  have hg := (hrow.lt g rfl).1
  refine ⟨Boxed.kept (W := W.drew) hv h2 (hv.not_row (by decide) hrow), ?_, Boxed.kept (W := W.drew) hbx h2 (hbx.not_row (by decide) hrow), (KeepsOthers.drew W).trans (KeepsOthers.setCell _ _ _), (Below.refl _ _).drew.setCell (p := ⟨g, k, none⟩) hg _⟩
  rw [intCells_set, hn] at h1
  rw [hn]
  simpa using h1

set_option maxHeartbeats 2000000 in
theorem widths_any (v : Value) (rows : List Row) (w : World) (hv : TRows w v rows) (hr : ∀ r ∈ rows, r.length ≤ 8796093022208) :
    Calls Try.prog 12 #[v] w fun e w' =>
      ∃ x, e = .returned x ∧ w'.ownsRow w.heap.size 3 1 x (widths rows).length (intCells (widths rows)) ∧ Below w.heap.size w w' := by
  have HR : Keep (∀ l, (∀ r ∈ l, r ∈ rows) → (widths l).length ≤ 8796093022208) := ⟨fun l hl => by
    rw [widths_length]
    induction l with
    | nil => exact Nat.zero_le _
    | cons r l ih =>
      rw [most_cons]
      have h1 := hr r (hl r (List.mem_cons_self ..))
      have h2 := ih (fun r' h' => hl r' (List.mem_cons_of_mem _ h'))
      omega⟩
  have HR' := Keep.mk hr
  clear hr
  have HV := Keep.mk hv
  obtain ⟨av, cv, rfl, hcap1, hcap2, hv3⟩ := hv
  have HV3 := Keep.mk hv3
  clear hv3
  refine (callsIn_wide (n := 3)).1 ?_
  refine callsIn_of_wp_marks Try.func12 rfl trivial ?_ rfl
  simp only [Try.ntmps12, List.size_toArray, List.length_cons, List.length_nil, Nat.reduceAdd, Nat.reduceSub, Array.replicate_succ, Array.replicate_zero, List.push_toArray, List.append_toArray, List.nil_append, List.cons_append]
  gi_wp2_with (refine ⟨trivial, ?_⟩; gi_at_call 18; refine (callsIn_wide.2 (cells_any _ _ _ _)).mono ?_; rintro e w' ⟨rfl, rfl⟩)
  generalize hvd : Value.slice av rows.length cv = v at *
  have HVD := Keep.mk hvd
  clear hvd
  have hb0 := Boxed.new w 25 (.slice none 0 0)
  have hb1 := Boxed.new (w.alloc (.cells #[.slice none 0 0] 25)) 22 v
  refine wpIn_range_c rfl (by decide) rfl trivial (enters_of Try.func24 (by kernel_rfl) rfl)
    (fun x : Nat × ByteArray => #[.int .i64 x.1, .string x.2]) (fun _ => rfl)
    (TabHeld v w) (fun _ _ _ => False) (fun pre x => x.1 ≤ (wfold pre).length ∧ (wfold pre).length ≤ 8796093022208) (fun xs => wfold xs = widths rows) w.heap.size (by simp; omega)
    (by simpa using tabHeld_own v w) (fun _ _ _ _ _ hs _ _ => hs)
    ⟨⟨⟨_, hb0.alloc _, (World.ownsRow_nil _ _ _ _), trivial⟩, ((Below.refl _ _).alloc (Nat.le_refl _) _).alloc (by simp) _⟩, by simpa using hb1⟩
    (fun x => { tmps := #[v, undef, Value.slice none 0 0, Value.pointer (some { block := w.heap.size, off := 0 }), .int .i64 x.1, .string x.2, v,
          Value.func (Fn.func 24) #[] #[Value.pointer (some { block := w.heap.size + 1, off := 0 })], .int .i64 x.1, .string x.2,
          undef, undef, undef, undef, undef, undef, undef, undef, undef, undef, undef, undef, undef, undef, undef, undef, undef, undef], defers := [] }) ?assign ?body ?iter ?done ?stop
  case assign =>
    intro l x W K hK
    gi_wp2
    simpa using hK
  case body =>
    rintro l pre ⟨k, c⟩ W ⟨⟨⟨x, hx, hrow, _⟩, hbel⟩, hbx⟩ ⟨hk, hlen⟩
    dsimp only at hk
    have hc := hx.cell
    obtain ⟨i0, hi, hz0, hz1, hz2⟩ := info_parts Try.infoInt
    have hsz := hbel.size
    obtain ⟨o, ho⟩ : ∃ o, wfold pre = o := ⟨_, rfl⟩
    have hsnoc : Keep (wfold (pre ++ [(k, c)]) = wset o k c.size) := ⟨by rw [wfold_snoc, ho]⟩
    rw [ho] at hrow hk hlen
    clear ho
    obtain ⟨ax, cx, rfl⟩ := ownsRow_slice hrow
    by_cases hnew : k = o.length
    · subst hnew
      have heq : (((o.length : Nat) : Int) == ((o.length : Nat) : Int)) = true := by simp
      gi_wp2_with (gi_at_builtin; refine wpListIn_append_own (o := ⟨some 16, _, _, _, _, _⟩) _ rfl _ _ 25 rfl w.heap.size 3 i0 (.int .i64 0) 1 8 Try.underlying25 hi hz0 hz1 hz2 rfl (by decide) _ _ _ rfl (hrow.alloc _) ⟨W.heap.size, 0, none⟩ 1 1 [.int .i64 1] rfl rfl (cell_one_new _ _ _) (by simp [Value.oneCell']) (by unfold maxLen; omega) (by omega) (by simp; omega) ?_; intro v3 w3 hown3 hgrow3 _; obtain ⟨g3, cap3, rfl⟩ := ownsRow_succ hown3; have hcat := intCells_snoc o 1; rw [show ((1 : Nat) : Int) = 1 from rfl] at hcat; rw [← hcat] at hown3; obtain ⟨hv3, hv4, hr4, hk4, hb4⟩ := hx.appended (by decide) hrow hbel.size (Nat.le_refl _) hown3 hgrow3; have hbx4 := ((hbx.alloc (.cells #[.int .i64 1] 3)).kept hgrow3 (hbx.not_row (by decide) hrow)).other (B' := w.heap.size) (by simp) (.slice (some ⟨g3, 0, none⟩) (o.length + 1) cap3); have hc3 := hv3.cell; have hf3 := hv3.frozen)
      have hc4 := hv4.cell
      have e4 := hr4.cellAt o.length (by omega)
      rw [intCells_last] at e4
      have f4 := hr4.frozenAt o.length
      have i1 : (0 : Int) ≤ (o.length : Int) := by omega
      have i2 : (o.length : Int) < ((o.length : Nat) : Int) + 1 := by omega
      have hmax : (if (1 : Int) < (c.size : Int) then (c.size : Int) else 1) = ((max 1 c.size : Nat) : Int) := by split <;> omega
      have hfin := Keep.mk (tabStore o.length (max 1 c.size) (by simp) hv4 hr4 hbx4)
      rw [← wset_new, ← hsnoc.out] at hfin
      have HK := Keep.mk (And.intro hk4 hb4)
      have HB := Keep.mk hbel
      generalize w3.setCell ⟨w.heap.size, 0, none⟩ (.slice (some ⟨g3, 0, none⟩) (o.length + 1) cap3) = W4 at *
      generalize max 1 c.size = M at *
      clear hv3 hv4 hr4 hk4 hb4 hbx4 hc3 hf3 hown3 hgrow3 hcat hx hrow hbx hbel hc hsnoc
      refine wpIn_region_tail_round 10 (by kernel_rfl) (by kernel_rfl) rfl ?_
      simp only [List.take_succ_cons, List.take_zero, List.drop_succ_cons, List.drop_zero]
      repeat still_step
      refine wpStill_nil ?_
      gi_wp2
      obtain ⟨t1, t2, t3, t4, t5⟩ := hfin.out
      obtain ⟨k1, k2⟩ := HK.out
      exact ⟨(k1.trans t4).from _, k2.trans t5, ⟨⟨_, t1, t2, trivial⟩, HB.out.trans (k2.trans t5)⟩, t3⟩
    · have hlt : k < o.length := by omega
      obtain ⟨g3, cap3, e3⟩ : ∃ g3 cap3, Value.slice ax o.length cx = .slice (some ⟨g3, 0, none⟩) o.length cap3 := by
        obtain ⟨m, hm⟩ : ∃ m, o.length = m + 1 := ⟨o.length - 1, by omega⟩
        rw [hm] at hrow ⊢
        exact ownsRow_succ hrow
      simp only [Value.slice.injEq, true_and] at e3
      obtain ⟨rfl, rfl⟩ := e3
      have heq : ((k : Int) == ((o.length : Nat) : Int)) = false := by simp; omega
      have e4 := hrow.cellAt k (by omega)
      rw [intCells_get hlt] at e4
      have f4 := hrow.frozenAt k
      have i1 : (0 : Int) ≤ (k : Int) := by omega
      have i2 : (k : Int) < ((o.length : Nat) : Int) := by omega
      have hmax : (if o.getD k 0 < c.size then (c.size : Int) else ((o.getD k 0 : Nat) : Int)) = ((max (o.getD k 0) c.size : Nat) : Int) := by split <;> omega
      have hfin := Keep.mk (tabStore k (max (o.getD k 0) c.size) rfl hx hrow hbx)
      rw [← wset_old hnew, ← hsnoc.out] at hfin
      have HB := Keep.mk hbel
      generalize max (o.getD k 0) c.size = M at *
      generalize o.getD k 0 = q at *
      have HM := Keep.mk hmax
      clear hx hrow hbx hbel hsnoc hnew hmax
      gi_wp2
      have hmax := HM.out
      refine wpIn_region_tail_round 10 (by kernel_rfl) (by kernel_rfl) rfl ?_
      simp only [List.take_succ_cons, List.take_zero, List.drop_succ_cons, List.drop_zero]
      repeat still_step
      refine wpStill_nil ?_
      gi_wp2
      obtain ⟨t1, t2, t3, t4, t5⟩ := hfin.out
      exact ⟨t4.from _, t5, ⟨⟨_, t1, t2, trivial⟩, HB.out.trans t5⟩, t3⟩
  case iter =>
    intro l L Lx W1 hL hsz hb1 hI1 hL1 hY
    refine callsIn_of_wp Try.func24 rfl trivial ?_ rfl
    simp only [Try.ntmps24, List.size_toArray, List.length_cons, List.length_nil, Nat.reduceAdd, Nat.reduceSub, Array.replicate_succ, Array.replicate_zero, List.push_toArray, List.append_toArray, List.nil_append, List.cons_append]
    have hbx1 := hI1.2.cell
    rw [← HVD.out] at hbx1
    unfold maxLen at hcap2
    gi_wp2
    gi_loopw [9] (fun i wr => ∃ (pre : List (Nat × ByteArray)) (m : Nat), i = .int .i64 m ∧ m ≤ rows.length ∧ Keep (wfold pre = widths (rows.take m)) ∧ TabHeld v w pre wr ∧ L wr) (fun i _ => rows.length - (intOf i).toNat)
    case atStart => exact ⟨[], 0, rfl, Nat.zero_le _, ⟨rfl⟩, hI1, hL1⟩
    case round =>
      obtain ⟨pre, m, rfl, hm, hws, hheld, hLr⟩ := hrel
      by_cases hlt : m < rows.length
      · obtain ⟨r, hrr⟩ : ∃ r, rows[m]? = some r := ⟨_, List.getElem?_eq_getElem hlt⟩
        obtain ⟨b, o, u, rfl, hb, hcu, hS⟩ := HV3.out m r hrr
        obtain ⟨a2, c2, rfl, g1, g2, g3⟩ := hS.parts
        have G3 := Keep.mk g3
        have hcu' := (hheld.1.2.cell (p := ⟨b, o + m, none⟩) hb).trans hcu
        have hstep := Keep.mk (widths_take_succ hrr)
        have hwl := Keep.mk (HR.out (rows.take m) (fun r' h' => List.mem_of_mem_take h'))
        have hrl : r.length ≤ 8796093022208 := HR'.out r (List.mem_of_getElem? hrr)
        unfold maxLen at g2
        clear hcu hS g3 hrr hbx1
        gi_wp2
        gi_loopw [15] (fun i wi => ∃ (pre : List (Nat × ByteArray)) (j : Nat), i = .int .i64 j ∧ j ≤ r.length ∧ Keep (wfold pre = wrow (widths (rows.take m)) (lens (r.take j))) ∧ TabHeld v w pre wi ∧ L wi) (fun i _ => r.length - (intOf i).toNat)
        case atStart => exact ⟨pre, 0, rfl, Nat.zero_le _, ⟨hws.out⟩, hheld, hLr⟩
        case round =>
          obtain ⟨pre2, j, rfl, hj, hw2, hh2, hL2⟩ := hrel
          by_cases hltj : j < r.length
          · obtain ⟨s, hs⟩ : ∃ s, r[j]? = some s := ⟨_, List.getElem?_eq_getElem hltj⟩
            obtain ⟨b2, o2, rfl, hb2, hcs⟩ := G3.out j s hs
            have hcs2 := (hh2.1.2.cell (p := ⟨b2, o2 + j, none⟩) hb2).trans hcs
            have hwj : Keep (wrow (widths (rows.take m)) (lens (r.take (j + 1))) = wset (wrow (widths (rows.take m)) (lens (r.take j))) j s.size) := ⟨by
              rw [lens_take_succ hs, wrow_snoc, lens_length, List.length_take, Nat.min_eq_left hj]⟩
            obtain ⟨fn, tmps, assign, body, hy, hR⟩ := hY pre2 (j, s) _ hh2 hL2 (by
              rw [hw2.out, wrow_length, lens_length, List.length_take]
              have := hwl.out
              dsimp only
              omega)
            clear hcs hs hcu'
            gi_wp2
            refine hR.mono ?_
            rintro e W3 (⟨rfl, hH3, hL3, hk3⟩ | ⟨rfl, hx3⟩)
            · gi_wp2
              go_roundw
              case rel => exact ⟨pre2 ++ [(j, s)], j + 1, by go_num, by omega, ⟨by rw [wfold_snoc, hw2.out, hwj.out]⟩, hH3, hL3⟩
              case measure => simp [intOf]; omega
            · gi_wp2
              refine bodyPost_ret (results_none rfl _ _ _) rfl ?_
              exact ⟨⟨_, rfl⟩, .inr ⟨_, hx3⟩⟩
          · have hw3 : Keep (wfold pre2 = widths (rows.take (m + 1))) := ⟨by rw [hw2.out, hstep.out, List.take_of_length_le (l := r) (by omega)]⟩
            clear hcu'
            gi_wp2
            go_roundw
            case rel => exact ⟨pre2, m + 1, by go_num, by omega, hw3, hh2, hL2⟩
            case measure => simp [intOf]; omega
      · have hw3 : Keep (wfold pre = widths rows) := ⟨by rw [hws.out, List.take_of_length_le (by omega)]⟩
        gi_wp2
        go_end0
        exact ⟨⟨_, rfl⟩, .inl ⟨_, hw3.out, hheld, hLr⟩⟩
  case done =>
    rintro D xs W hD hxs ⟨⟨⟨x, hx, hrow, _⟩, hbel⟩, hbx⟩ hK
    have hcv := hx.cell
    gi_wp2
    refine ⟨by simp, .inl ⟨_, _, rfl, run_takeDeferred hK, ?_⟩⟩
    refine ⟨_, results_tmp rfl _ _ _, x, rfl, ?_, ?_⟩
    · rw [hxs] at hrow
      exact ownsRow_putObj hrow _ hK rfl
    · exact hbel.trans (belowK_b (w := w) (n₀ := w.heap.size) (Nat.le_refl _) W D _ _ (by simp at hD; omega) hK rfl rfl)
  case stop =>
    rintro D c pre W _ h _
    exact h.elim
end Go.Proofs.Ytofhokggcpeldaa
