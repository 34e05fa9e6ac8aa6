/- The reference's Lines; Great; Same. Conditions: for Lines, small rows; for Great, the rows' cells. -/
import Derived.Test.YtofhokggcpeldaaTabRef
namespace Go.Proofs.Ytofhokggcpeldaa
open Go.RowKit Go.Shelf Go.Proofs.Ytofhokggcpeldaa.Table

theorem Try.infoStr : (Try.prog.info? 9).map (fun i => (i.zero, i.size, i.bytes)) = some (some (.string ⟨#[]⟩), 1, 16) := by kernel_rfl
def strCells (l : List ByteArray) : List Value := l.map Value.string
theorem strCells_length (l : List ByteArray) : (strCells l).length = l.length := by simp [strCells]
theorem strCells_snoc (l : List ByteArray) (s : ByteArray) : strCells (l ++ [s]) = strCells l ++ [.string s] := by simp [strCells]
/-- The lines of a table. -/
def linesS (rows : List Row) : List ByteArray := rows.map fun r => mkS (lineL (widths rows) r)
theorem linesS_length (rows : List Row) : (linesS rows).length = rows.length := by simp [linesS]
theorem linesS_take {rows : List Row} {m : Nat} {r : Row} (h : rows[m]? = some r) : (linesS rows).take (m + 1) = (linesS rows).take m ++ [mkS (lineL (widths rows) r)] := by
  rw [List.take_add_one]; simp [linesS, h]
theorem fits_small {rows : List Row} {r : Row} (h : r ∈ rows) : ∀ k, k < (widths rows).length → (cellAt r k).size ≤ (widths rows).getD k 0 := fun k hk => (fits_row h k).elim id (fun h => by omega)
theorem held_on {w W W' : World} (hb : Below W.heap.size W W') (h : Below w.heap.size w W) : Below w.heap.size w W' := h.trans (hb.mono h.size)

set_option maxHeartbeats 2000000 in
theorem refLines_any (v : Value) (rows : List Row) (w : World) (hv : TRows w v rows) (hr : ∀ r ∈ rows, Small r) (hn : rows.length ≤ 20) :
    Calls Try.prog 16 #[v] w fun e w' =>
      ∃ x, e = .returned x ∧ w'.ownsRow w.heap.size 9 1 x rows.length (strCells (linesS rows)) ∧ Below w.heap.size w w' := by
  have hslim := small_widths hr
  have HR := Keep.mk hr
  obtain ⟨i0, hi, hz0, hz1, hz2⟩ := info_parts Try.infoStr
  go_enter Try.func16, Try.ntmps16
  go_wp2_with fail
  refine (refWidths_any v rows w hv (fun r h => by have := (hr r h).1; omega)).mono ?_
  rintro e w1 ⟨x, rfl, hx, hb1⟩
  have hN := Keep.mk (Nums.of_owns hx)
  have hv1 := hv.below hb1 (Nat.le_refl _)
  obtain ⟨ax, cx, rfl⟩ := ownsRow_slice hx
  have HX := Keep.mk (Nums.of_owns hx)
  have HB1 := Keep.mk hb1
  obtain ⟨a, c, rfl, h1, h2, h3⟩ := hv1
  have H3 := Keep.mk h3
  have HSL := Keep.mk hslim
  have hwb := hb1.size
  unfold maxLen at h2
  clear h3 hr hv hx hb1 hslim
  have h0 : Keep ((w1.alloc (.cells #[] 9)).ownsRow w1.heap.size 9 1 (.slice (some ⟨w1.heap.size, 0, none⟩) 0 0) 0 (strCells ((linesS rows).take 0))) :=
    ⟨World.ownsRow_lit w1 #[] 0 (Nat.le_refl _) (by decide) rfl⟩
  have hb0 : Below w1.heap.size w1 (w1.alloc (.cells #[] 9)) := (Below.refl _ _).alloc (Nat.le_refl _) _
  go_wp2
  go_loopw [4, 5] (fun y i wr => ∃ m : Nat, m ≤ rows.length ∧ i = .int .i64 m ∧ wr.ownsRow w1.heap.size 9 1 y m (strCells ((linesS rows).take m)) ∧ Below w1.heap.size w1 wr) (fun _ i _ => rows.length - (intOf i).toNat)
  case atStart => exact ⟨0, Nat.zero_le _, rfl, h0.out, hb0⟩
  case round =>
    obtain ⟨m, hm, rfl, hrow, hbr⟩ := hrel
    by_cases hlt : m < rows.length
    · obtain ⟨r, hrr⟩ : ∃ r, rows[m]? = some r := ⟨_, List.getElem?_eq_getElem hlt⟩
      obtain ⟨b, o, u, rfl, hb, hcu, hS⟩ := H3.out m r hrr
      have hcu' := (hbr.cell (p := ⟨b, o + m, none⟩) hb).trans hcu
      have hmem : r ∈ rows := List.mem_of_getElem? hrr
      have hL := Keep.mk (refLine_any u (.slice ax (widths rows).length cx) r (widths rows) wr (hS.below hbr (Nat.le_refl _)) (HX.out.below hbr (Nat.le_refl _)) HSL.out (HR.out r hmem) (fits_small hmem))
      have hst := Keep.mk (linesS_take hrr)
      obtain ⟨t, ht⟩ : ∃ t, t = mkS (lineL (widths rows) r) := ⟨_, rfl⟩
      rw [← ht] at hL hst
      have hbs := hbr.size
      obtain ⟨ay, cy, rfl⟩ := ownsRow_slice hrow
      obtain ⟨a3, c3, rfl, _⟩ := hS.parts
      clear hcu hS hrr hmem ht
      go_wp2_with (first
        | (go_at_call 23; refine hL.out.mono ?_; rintro e w' ⟨rfl, rfl⟩)
        | (at_builtin; refine wpList_append_own (o := ⟨some 23, _, _, _, _, _⟩) _ rfl _ _ 28 rfl w1.heap.size 9 i0 (.string ⟨#[]⟩) 1 16 Try.underlying28 hi hz0 hz1 hz2 rfl (by decide) (.slice ay m cy) _ _ rfl (hrow.alloc _) ⟨wr.heap.size, 0, none⟩ 1 1 [.string t] rfl rfl (cell_one_new _ _ _) (by simp [Value.oneCell']) (by unfold maxLen; omega) (by omega) (by simp; omega) ?_; intro v3 w3 hown3 hgrow3 _; have hb3 := below_append (hbr.alloc hbs _) (by simp; omega) (hrow.alloc _) (Nat.le_refl _) hgrow3; rw [← strCells_snoc, ← hst.out] at hown3; have HO3 := Keep.mk hown3; clear hown3 hgrow3 hrow))
      go_roundw
      case rel => exact ⟨m + 1, by omega, by go_num, HO3.out, hb3⟩
      case measure => simp [intOf]; omega
    · have hmn : m = rows.length := by omega
      have hall : (linesS rows).take m = linesS rows := List.take_of_length_le (by rw [linesS_length]; omega)
      rw [hall, hmn] at hrow
      have HROW := Keep.mk hrow
      have HMN := Keep.mk hmn
      clear hrow hall hmn
      go_wp2
      go_ret
      exact ⟨_, rfl, ownsRow_base HROW.out hwb, held_on hbr HB1.out⟩

set_option maxHeartbeats 400000 in
theorem same51_any (u v : Value) (l m : List ByteArray) (w : World) (hu : Strs w u l) (hv : Strs w v m) :
    Calls Try.prog 14 #[u, v] w fun e w' => e = .returned (.bool (decide (l = m))) ∧ Below w.heap.size w w' := by
  obtain ⟨au, cu, rfl, hu1, hu2, hu3⟩ := hu.parts
  obtain ⟨av, cv, rfl, hv1, hv2, hv3⟩ := hv.parts
  have HU := Keep.mk hu3
  have HV := Keep.mk hv3
  unfold maxLen at hu2 hv2
  clear hu hv hu3 hv3
  by_cases hlen : l.length = m.length
  · have hb : ((l.length : Int) != (m.length : Int)) = false := by simp [hlen]
    have HL := Keep.mk hlen
    clear hlen
    go_enter Try.func14, Try.ntmps14
    go_wp2
    go_loopw [5] (fun i wr => ∃ j : Nat, j ≤ l.length ∧ i = .int .i64 j ∧ Keep (l.take j = m.take j) ∧ Below w.heap.size w wr) (fun i _ => l.length - (intOf i).toNat)
    case atStart => exact ⟨0, Nat.zero_le _, rfl, ⟨rfl⟩, Below.refl _ _⟩
    case round =>
      obtain ⟨j, hj, rfl, hT, hbr⟩ := hrel
      by_cases hlt : j < l.length
      · obtain ⟨x, hx⟩ : ∃ x, l[j]? = some x := ⟨_, List.getElem?_eq_getElem hlt⟩
        have hjm : j < m.length := by have := HL.out; omega
        obtain ⟨y, hy⟩ : ∃ y, m[j]? = some y := ⟨_, List.getElem?_eq_getElem hjm⟩
        obtain ⟨b1, o1, rfl, hb1, hx1⟩ := HU.out j x hx
        obtain ⟨b2, o2, rfl, hb2, hy1⟩ := HV.out j y hy
        have hx1' := (hbr.cell (p := ⟨b1, o1 + j, none⟩) hb1).trans hx1
        have hy1' := (hbr.cell (p := ⟨b2, o2 + j, none⟩) hb2).trans hy1
        have i1 : (0 : Int) ≤ (j : Int) := by omega
        have i2 : (j : Int) < ((l.length : Nat) : Int) := by omega
        have i3 : (j : Int) < ((m.length : Nat) : Int) := by omega
        have hT1 : Keep (l.take (j + 1) = m.take (j + 1) ↔ x = y) := ⟨by
          rw [List.take_add_one, List.take_add_one, hx, hy, hT.out]; simp⟩
        have heq : (x.toList == y.toList) = decide (x = y) := toList_beq x y
        clear hx hy hx1 hy1
        by_cases hxy : x = y
        · rw [decide_eq_true hxy] at heq
          have hT2 := Keep.mk (hT1.out.2 hxy)
          have hne : (x.toList != y.toList) = false := by rw [bne, heq]; rfl
          clear hxy
          go_wp2
          go_quiet (fail)
          go_wp2
          go_roundw
          case rel => exact ⟨j + 1, by omega, by go_num, hT2, below_drewN hbr _⟩
          case measure => simp [intOf]; omega
        · rw [decide_eq_false hxy] at heq
          have hne : (x.toList != y.toList) = true := by rw [bne, heq]; rfl
          have hD : Keep (decide (l = m) = false) := ⟨by
            rw [decide_eq_false_iff_not]
            intro e
            exact hxy (hT1.out.1 (by rw [e]))⟩
          clear hxy
          go_wp2
          go_quiet (fail)
          go_wp2
          go_ret
          exact ⟨ret_bool hD.out.symm, below_drewN hbr _⟩
      · have hD : Keep (decide (l = m) = true) := ⟨by
          rw [decide_eq_true_eq]
          have := hT.out
          rwa [List.take_of_length_le (by omega), List.take_of_length_le (by have := HL.out; omega)] at this⟩
        go_wp2
        go_ret
        exact ⟨ret_bool hD.out.symm, hbr⟩
  · have hb : ((l.length : Int) != (m.length : Int)) = true := by simp; omega
    have hD : Keep (decide (l = m) = false) := ⟨by rw [decide_eq_false_iff_not]; exact fun e => hlen (by rw [e])⟩
    clear hlen
    go_enter Try.func14, Try.ntmps14
    go_wp2
    go_ret
    exact ⟨ret_bool hD.out.symm, Below.refl _ _⟩

/-- What Great returns. -/
def GreatIs (rows : List Row) (e : Ending) : Prop := ∃ g : Bool, e = .returned (.int .i64 (if g then 1 else 0)) ∧ (g = false → rows.length ≤ 10 ∧ ∀ r ∈ rows, Small r)
theorem greatIs_one (rows : List Row) : GreatIs rows (.returned (.int .i64 1)) := ⟨true, rfl, fun h => by cases h⟩
theorem greatIs_zero {rows : List Row} (h : rows.length ≤ 10) (h' : ∀ r ∈ rows, Small r) : GreatIs rows (.returned (.int .i64 0)) := ⟨false, rfl, fun _ => ⟨h, h'⟩⟩

set_option maxHeartbeats 1000000 in
theorem great51_any (v : Value) (rows : List Row) (w : World) (hv : TRows w v rows) (hc : ∀ r ∈ rows, ∀ c ∈ r, c.size ≤ 140737488355328) :
    Calls Try.prog 10 #[v] w fun e w' => GreatIs rows e ∧ w = w' := by
  obtain ⟨a, c, rfl, h1, h2, h3⟩ := hv
  have H3 := Keep.mk h3
  have HC := Keep.mk hc
  unfold maxLen at h2
  clear h3 hc
  go_enter Try.func10, Try.ntmps10
  by_cases hbig : 10 < rows.length
  · have hbig' : (10 : Int) < (rows.length : Int) := by omega
    go_wp2
    go_ret
    exact ⟨greatIs_one _, rfl⟩
  · have hbig' : ¬ (10 : Int) < (rows.length : Int) := by omega
    go_wp2
    go_loop [3] (fun i => ∃ m : Nat, m ≤ rows.length ∧ i = .int .i64 m ∧ Keep (∀ r ∈ rows.take m, Small r)) (fun i => rows.length - (intOf i).toNat)
    case atStart => exact ⟨0, Nat.zero_le _, rfl, ⟨fun r h => by simp at h⟩⟩
    case round =>
      obtain ⟨m, hm, rfl, hT⟩ := hrel
      by_cases hlt : m < rows.length
      · obtain ⟨r, hrr⟩ : ∃ r, rows[m]? = some r := ⟨_, List.getElem?_eq_getElem hlt⟩
        obtain ⟨b, o, u, rfl, hb, hcu, hS⟩ := H3.out m r hrr
        obtain ⟨a2, c2, rfl, g1, g2, g3⟩ := hS.parts
        have G3 := Keep.mk g3
        have hstep : Keep (Small r → ∀ q ∈ rows.take (m + 1), Small q) := ⟨fun hs q hq => by
          rw [List.take_add_one, hrr] at hq
          rcases List.mem_append.1 hq with hq | hq
          · exact hT.out q hq
          · simp at hq; rw [hq]; exact hs⟩
        have HCR := Keep.mk (HC.out r (List.mem_of_getElem? hrr))
        unfold maxLen at g2
        clear g3 hS hrr
        by_cases h8 : 8 < r.length
        · have h8' : (8 : Int) < (r.length : Int) := by omega
          go_wp2
          go_ret
          exact ⟨greatIs_one _, rfl⟩
        · have h8' : ¬ (8 : Int) < (r.length : Int) := by omega
          go_wp2
          go_loop [4] (fun i => ∃ j : Nat, j ≤ r.length ∧ i = .int .i64 j ∧ Keep (∀ c ∈ r.take j, c.size ≤ 30)) (fun i => r.length - (intOf i).toNat)
          case atStart => exact ⟨0, Nat.zero_le _, rfl, ⟨fun r h => by simp at h⟩⟩
          case round =>
            obtain ⟨j, hj, rfl, hT2⟩ := hrel
            by_cases hltj : j < r.length
            · obtain ⟨s, hs⟩ : ∃ s, r[j]? = some s := ⟨_, List.getElem?_eq_getElem hltj⟩
              obtain ⟨b2, o2, rfl, hb2, hcs⟩ := G3.out j s hs
              have hsz := HCR.out s (List.mem_of_getElem? hs)
              have hst2 : Keep (s.size ≤ 30 → ∀ c ∈ r.take (j + 1), c.size ≤ 30) := ⟨fun hs2 q hq => by
                rw [List.take_add_one, hs] at hq
                rcases List.mem_append.1 hq with hq | hq
                · exact hT2.out q hq
                · simp at hq; rw [hq]; exact hs2⟩
              clear hs
              by_cases h30 : 30 < s.size
              · have h30' : (30 : Int) < (s.size : Int) := by omega
                go_wp2
                go_ret
                exact ⟨greatIs_one _, rfl⟩
              · have h30' : ¬ (30 : Int) < (s.size : Int) := by omega
                have hst3 := Keep.mk (hst2.out (by omega))
                go_wp2
                go_round
                case rel => exact ⟨j + 1, by omega, by go_num, hst3⟩
                case measure => simp [intOf]; omega
            · have hsm := Keep.mk (hstep.out ⟨by omega, by have := hT2.out; rwa [List.take_of_length_le (by omega)] at this⟩)
              go_wp2
              go_round
              case rel => exact ⟨m + 1, by omega, by go_num, hsm⟩
              case measure => simp [intOf]; omega
      · have hfin : Keep (∀ r ∈ rows, Small r) := ⟨by have := hT.out; rwa [List.take_of_length_le (by omega)] at this⟩
        go_wp2
        go_ret
        exact ⟨greatIs_zero (by omega) hfin.out, rfl⟩
end Go.Proofs.Ytofhokggcpeldaa
