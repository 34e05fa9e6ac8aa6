/- The reference's Widths, blanks, line, Lines; Great; Same. Conditions: the rows' lengths; for lines, small rows. -/
import Derived.Test.YtofhokggcpeldaaTabWidths
import Derived.Deep.QuietTactic
import Derived.BigQuiet
namespace Go.Proofs.Ytofhokggcpeldaa
open Go.RowKit Go.Shelf Go.Proofs.Ytofhokggcpeldaa.Table

theorem mkS_append (a b : List UInt8) : mkS a ++ mkS b = mkS (a ++ b) := by
  apply ByteArray.ext
  simp [mkS]
theorem wset_same {o : List Nat} {k n : Nat} (h : k < o.length) (hn : n ≤ o.getD k 0) : wset o k n = o := by
  rw [wset_old (by omega)]
  apply List.ext_getElem (by simp)
  intro i h1 h2
  rw [List.getElem_set]
  split
  · rename_i e
    subst e
    have : o.getD k 0 = o[k] := by simp [List.getD_eq_getElem?_getD, h]
    omega
  · rfl
theorem wset_up {o : List Nat} {k n : Nat} (h : k < o.length) (hn : o.getD k 0 < n) : wset o k n = o.set k n := by
  rw [wset_old (by omega)]; congr 1; omega
theorem wset_new_up (o : List Nat) {n : Nat} (h : 1 < n) : wset o o.length n = (o ++ [1]).set o.length n := by
  rw [wset_new]; congr 1; omega
theorem wset_new_same (o : List Nat) {n : Nat} (h : ¬ 1 < n) : wset o o.length n = o ++ [1] := by
  rw [wset_new, show max 1 n = 1 by omega]; simp
theorem intCells_one (o : List Nat) : intCells (o ++ [1]) = intCells o ++ [.int .i64 1] := intCells_snoc o 1
theorem ownsRow_len {w : World} {base : Nat} {e : TypeId} {v : Value} {n : Nat} {l : List Nat} (h : w.ownsRow base e 1 v n (intCells l)) : n = l.length := by
  have := h.1; rw [intCells_length] at this; omega
theorem ownsRow_pos {w : World} {base : Nat} {e : TypeId} {size : Nat} {v : Value} {n : Nat} {xs : List Value} (h : w.ownsRow base e size v n xs) (hn : 0 < n) : ∃ g cap, v = .slice (some ⟨g, 0, none⟩) n cap := by
  obtain ⟨m, rfl⟩ : ∃ m, n = m + 1 := ⟨n - 1, by omega⟩
  exact ownsRow_succ h

set_option maxHeartbeats 4000000 in
theorem refWidths_any (v : Value) (rows : List Row) (w : World) (hv : TRows w v rows) (hr : ∀ r ∈ rows, r.length ≤ 8796093022208) :
    Calls Try.prog 13 #[v] w fun e w' =>
      ∃ x, e = .returned x ∧ w'.ownsRow w.heap.size 3 1 x (widths rows).length (intCells (widths rows)) ∧ Below w.heap.size w w' := by
  have HW : Keep (∀ l, (∀ r ∈ l, r ∈ rows) → (widths l).length ≤ 8796093022208) := ⟨fun l hl => by
    rw [widths_length]
    induction l with
    | nil => exact Nat.zero_le _
    | cons r l ih =>
      rw [most_cons]
      have h1 := hr r (hl r (List.mem_cons_self ..))
      have h2 := ih (fun r' h' => hl r' (List.mem_cons_of_mem _ h'))
      omega⟩
  have HR := Keep.mk hr
  obtain ⟨a, c, rfl, h1, h2, h3⟩ := hv
  have H3 := Keep.mk h3
  obtain ⟨i0, hi, hz0, hz1, hz2⟩ := info_parts Try.infoInt
  unfold maxLen at h2
  clear h3 hr
  have h0 : (w.alloc (.cells #[] 3)).ownsRow w.heap.size 3 1 (.slice (some ⟨w.heap.size, 0, none⟩) 0 0) (widths (rows.take 0)).length (intCells (widths (rows.take 0))) :=
    World.ownsRow_lit w #[] 0 (Nat.le_refl _) (by decide) rfl
  have hb0 : Below w.heap.size w (w.alloc (.cells #[] 3)) := (Below.refl _ _).alloc (Nat.le_refl _) _
  have H0 := Keep.mk h0
  clear h0
  go_enter Try.func13, Try.ntmps13
  go_wp2
  go_loopw [3, 4] (fun x i wr => ∃ m : Nat, m ≤ rows.length ∧ i = .int .i64 m ∧ wr.ownsRow w.heap.size 3 1 x (widths (rows.take m)).length (intCells (widths (rows.take m))) ∧ Below w.heap.size w wr) (fun _ i _ => rows.length - (intOf i).toNat)
  case atStart => exact ⟨0, Nat.zero_le _, rfl, H0.out, hb0⟩
  case round =>
    obtain ⟨m, hm, rfl, hrow, hbr⟩ := hrel
    by_cases hlt : m < rows.length
    · obtain ⟨r, hrr⟩ : ∃ r, rows[m]? = some r := ⟨_, List.getElem?_eq_getElem hlt⟩
      obtain ⟨b, o, u, rfl, hb, hcu, hS⟩ := H3.out m r hrr
      obtain ⟨a2, c2, rfl, g1, g2, g3⟩ := hS.parts
      have G3 := Keep.mk g3
      have hcu' := (hbr.cell (p := ⟨b, o + m, none⟩) hb).trans hcu
      have hws := Keep.mk (widths_take_succ hrr)
      have hwl : (widths (rows.take m)).length ≤ 8796093022208 := HW.out _ (fun r' h' => List.mem_of_mem_take h')
      have hrl : r.length ≤ 8796093022208 := HR.out r (List.mem_of_getElem? hrr)
      have HCU := Keep.mk hcu
      unfold maxLen at g2
      obtain ⟨ws, hwsd⟩ : ∃ ws, widths (rows.take m) = ws := ⟨_, rfl⟩
      rw [hwsd] at hrow hws hwl
      clear hwsd hcu hS g3 hrr
      go_wp2
      go_loopw [3, 5] (fun x k wi => ∃ j : Nat, j ≤ r.length ∧ k = .int .i64 j ∧ wi.ownsRow w.heap.size 3 1 x (wrow ws (lens (r.take j))).length (intCells (wrow ws (lens (r.take j)))) ∧ Below w.heap.size w wi) (fun _ k _ => r.length - (intOf k).toNat)
      case atStart => exact ⟨0, Nat.zero_le _, rfl, by simpa [lens, wrow] using hrow, hbr⟩
      case round =>
        obtain ⟨j, hj, rfl, hrow2, hbi⟩ := hrel
        have hcu2 := (hbi.cell (p := ⟨b, o + m, none⟩) hb).trans HCU.out
        by_cases hltj : j < r.length
        · obtain ⟨s, hs⟩ : ∃ s, r[j]? = some s := ⟨_, List.getElem?_eq_getElem hltj⟩
          obtain ⟨b2, o2, rfl, hb2, hcs⟩ := G3.out j s hs
          have hcs2 := (hbi.cell (p := ⟨b2, o2 + j, none⟩) hb2).trans hcs
          have HCS := Keep.mk hcs
          have hstep : Keep (wrow ws (lens (r.take (j + 1))) = wset (wrow ws (lens (r.take j))) j s.size) := ⟨by
            rw [lens_take_succ hs, wrow_snoc, lens_length, List.length_take, Nat.min_eq_left hj]⟩
          have hol : j ≤ (wrow ws (lens (r.take j))).length ∧ (wrow ws (lens (r.take j))).length ≤ 8796093022208 := by
            rw [wrow_length, lens_length, List.length_take]; omega
          obtain ⟨q, hq⟩ : ∃ q, wrow ws (lens (r.take j)) = q := ⟨_, rfl⟩
          rw [hq] at hrow2 hstep hol
          obtain ⟨hol1, hol2⟩ := hol
          have hbs := hbi.size
          clear hq hcs hs hcu' hrow hbr hwl
          obtain ⟨ax, cx, rfl⟩ := ownsRow_slice hrow2
          by_cases hnew : j = q.length
          · subst hnew
            have heq : (((q.length : Nat) : Int) == ((q.length : Nat) : Int)) = true := by simp
            go_wp2_with (at_builtin; refine wpList_append_own (o := ⟨some 28, _, _, _, _, _⟩) _ rfl _ _ 25 rfl w.heap.size 3 i0 (.int .i64 0) 1 8 Try.underlying25 hi hz0 hz1 hz2 rfl (by decide) (.slice ax q.length cx) _ _ rfl (hrow2.alloc _) ⟨wr.heap.size, 0, none⟩ 1 1 [.int .i64 1] rfl rfl (cell_one_new _ _ _) (by simp [Value.oneCell']) (by unfold maxLen; omega) (by omega) (by simp; omega) ?_; intro v3 w3 hown3 hgrow3 _; obtain ⟨g3, cap3, rfl⟩ := ownsRow_succ hown3; have hb3 := below_append (hbi.alloc hbs _) (by simp; omega) (hrow2.alloc _) (Nat.le_refl _) hgrow3; rw [← intCells_one q] at hown3; have hcu3 := (hb3.cell (p := ⟨b, o + m, none⟩) hb).trans HCU.out; have hcs3 := (hb3.cell (p := ⟨b2, o2 + q.length, none⟩) hb2).trans (HCS.out); have e3 := hown3.cellAt q.length (by omega); rw [intCells_last] at e3; have f3 := hown3.frozenAt q.length; have hst3 := Keep.mk (fun u => hown3.stored q.length u); have HO3 := Keep.mk hown3; clear hown3 hgrow3 hcs2 hcu2 hrow2)
            have i1 : (0 : Int) ≤ (q.length : Int) := by omega
            have i2 : (q.length : Int) < ((q.length : Nat) : Int) + 1 := by omega
            have i3 : (q.length : Int) < ((r.length : Nat) : Int) := by omega
            have i4 : (m : Int) < ((rows.length : Nat) : Int) := by omega
            have i5 : (0 : Int) ≤ (m : Int) := by omega
            by_cases hgt : 1 < s.size
            · have hw1 := Keep.mk (hstep.out.trans (wset_new_up q hgt))
              have hgt' : (1 : Int) < (s.size : Int) := by omega
              go_quiet (fail)
              go_wp2
              go_roundw
              case rel => exact ⟨q.length + 1, by omega, by go_num, by have := (hst3.out (.int .i64 s.size)).1; rw [hw1.out, ← intCells_set, List.length_set, List.length_append]; exact this, (below_drewN hb3 _).setCell (p := ⟨g3, q.length, none⟩) (HO3.out.lt g3 rfl).1 _⟩
              case measure => simp [intOf]; omega
            · have hw1 := Keep.mk (hstep.out.trans (wset_new_same q hgt))
              have hgt' : ¬ (1 : Int) < (s.size : Int) := by omega
              go_quiet (fail)
              go_wp2
              go_roundw
              case rel => exact ⟨q.length + 1, by omega, by go_num, by rw [hw1.out, List.length_append]; exact HO3.out, below_drewN hb3 _⟩
              case measure => simp [intOf]; omega
          · have hjq : j < q.length := by omega
            obtain ⟨g3, cap3, e3⟩ : ∃ g3 cap3, Value.slice ax q.length cx = .slice (some ⟨g3, 0, none⟩) q.length cap3 := by
              obtain ⟨n, hn⟩ : ∃ n, q.length = n + 1 := ⟨q.length - 1, by omega⟩
              rw [hn] at hrow2 ⊢
              exact ownsRow_succ hrow2
            simp only [Value.slice.injEq, true_and] at e3
            obtain ⟨rfl, rfl⟩ := e3
            have heq : ((j : Int) == ((q.length : Nat) : Int)) = false := by simp; omega
            have e3 := hrow2.cellAt j (by omega)
            rw [intCells_get hjq] at e3
            have f3 := hrow2.frozenAt j
            have hst3 := Keep.mk (fun u => hrow2.stored j u)
            have HO3 := Keep.mk hrow2
            have i1 : (0 : Int) ≤ (j : Int) := by omega
            have i2 : (j : Int) < ((q.length : Nat) : Int) := by omega
            have i3 : (j : Int) < ((r.length : Nat) : Int) := by omega
            have i4 : (m : Int) < ((rows.length : Nat) : Int) := by omega
            have i5 : (0 : Int) ≤ (m : Int) := by omega
            by_cases hgt : q.getD j 0 < s.size
            · have hw1 := Keep.mk (hstep.out.trans (wset_up hjq hgt))
              generalize q.getD j 0 = y at *
              have hgt' : (y : Int) < (s.size : Int) := by omega
              clear hrow2 hnew
              go_wp2
              go_quiet (fail)
              go_wp2
              go_roundw
              case rel => exact ⟨j + 1, by omega, by go_num, by have := (hst3.out (.int .i64 s.size)).1; rw [hw1.out, ← intCells_set, List.length_set]; exact this, (below_drewN hbi _).setCell (p := ⟨g3, j, none⟩) (HO3.out.lt g3 rfl).1 _⟩
              case measure => simp [intOf]; omega
            · have hw1 := Keep.mk (hstep.out.trans (wset_same hjq (by omega)))
              generalize q.getD j 0 = y at *
              have hgt' : ¬ (y : Int) < (s.size : Int) := by omega
              clear hrow2 hnew
              go_wp2
              go_quiet (fail)
              go_wp2
              go_roundw
              case rel => exact ⟨j + 1, by omega, by go_num, by rw [hw1.out]; exact HO3.out, below_drewN hbi _⟩
              case measure => simp [intOf]; omega
        · have hjr : j = r.length := by omega
          have hfin : wrow ws (lens (r.take j)) = widths (rows.take (m + 1)) := by rw [hws.out, hjr, List.take_length]
          rw [hfin] at hrow2
          have HROW := Keep.mk hrow2
          clear hfin hrow2 hrow hjr hcu'
          go_wp2
          go_roundw
          case rel => exact ⟨m + 1, by omega, by go_num, HROW.out, hbi⟩
          case measure => simp [intOf]; omega
    · have hall : rows.take m = rows := List.take_of_length_le (by omega)
      rw [hall] at hrow
      have HROW := Keep.mk hrow
      clear hall hrow
      go_wp2
      go_ret
      exact ⟨_, rfl, HROW.out, hbr⟩

set_option maxHeartbeats 400000 in
theorem blanks_any (n : Nat) (w : World) (hn : n ≤ 1000000) :
    Calls Try.prog 30 #[.int .i64 n] w fun e w' => e = .returned (.string (mkS (List.replicate n 32))) ∧ w = w' := by
  go_enter Try.func30, Try.ntmps30
  go_wp2
  go_loop [3, 4] (fun x i => ∃ (k : Nat) (s : ByteArray), k ≤ n ∧ i = .int .i64 k ∧ x = .string s ∧ s.size ≤ k ∧ Keep (s = mkS (List.replicate k 32))) (fun _ i => n - (intOf i).toNat)
  case atStart => exact ⟨0, ⟨#[]⟩, Nat.zero_le _, rfl, rfl, Nat.le_refl _, ⟨rfl⟩⟩
  case round =>
    obtain ⟨k, s, hk, rfl, rfl, hs, hS⟩ := hrel
    by_cases hlt : k < n
    · have hcat := fun (wx : World) => run_string_add_sum (P := Try.prog) wx s ⟨#[32]⟩ (by rw [show (⟨#[32]⟩ : ByteArray).size = 1 from rfl]; omega)
      obtain ⟨t, ht⟩ : ∃ t, t = s ++ ⟨#[32]⟩ := ⟨_, rfl⟩
      have htz : t.size = s.size + 1 := by rw [ht, ByteArray.size_append]; rfl
      have hT : Keep (t = mkS (List.replicate (k + 1) 32)) := ⟨by
        rw [ht, hS.out, List.replicate_succ', ← mkS_append]; rfl⟩
      rw [← ht] at hcat
      have hts : t.size ≤ k + 1 := by omega
      clear ht htz
      go_wp2
      go_round
      case rel => exact ⟨k + 1, t, by omega, by go_num, rfl, hts, hT⟩
      case measure => simp [intOf]; omega
    · have hkn : Keep (k = n) := ⟨by omega⟩
      go_wp2
      go_ret
      exact ⟨by rw [hS.out, hkn.out]; rfl, rfl⟩

/-- Rows as the statements bound them. -/
def Small (r : Row) : Prop := r.length ≤ 8 ∧ ∀ c ∈ r, c.size ≤ 30
theorem small_cell {r : Row} (h : Small r) (k : Nat) : (cellAt r k).size ≤ 30 := by
  unfold cellAt
  rw [List.getD_eq_getElem?_getD]
  cases hk : r[k]? with
  | none => simp [ByteArray.size]
  | some c => simpa using h.2 c (List.mem_of_getElem? hk)
theorem small_widths {rows : List Row} (h : ∀ r ∈ rows, Small r) : (widths rows).length ≤ 8 ∧ ∀ k, (widths rows).getD k 0 ≤ 30 := by
  constructor
  · rw [widths_length]
    induction rows with
    | nil => exact Nat.zero_le _
    | cons r l ih =>
      rw [most_cons]
      have := (h r (List.mem_cons_self ..)).1
      have := ih (fun r' h' => h r' (List.mem_cons_of_mem _ h'))
      omega
  · intro k
    rw [widths_getD]
    induction rows with
    | nil => exact Nat.zero_le _
    | cons r l ih =>
      rw [most_cons]
      have h1 : Table.ask (lens r) k ≤ 30 := by
        unfold Table.ask
        split
        · rename_i hk
          rw [lens_length] at hk
          have := (h r (List.mem_cons_self ..)).2 r[k] (List.getElem_mem hk)
          simp [lens, List.getD_eq_getElem?_getD, hk]; omega
        · omega
      have := ih (fun r' h' => h r' (List.mem_cons_of_mem _ h'))
      omega
/-- Widths within the bounds of the statements. -/
def Slim (ws : List Nat) : Prop := ws.length ≤ 8 ∧ ∀ k, ws.getD k 0 ≤ 30

set_option maxHeartbeats 1000000 in
theorem refLine_any (u x : Value) (r : Row) (ws : List Nat) (w : World) (hu : Strs w u r) (hx : Nums w x ws) (hs : Slim ws) (hsm : Small r) (hf : ∀ k, k < ws.length → (cellAt r k).size ≤ ws.getD k 0) :
    Calls Try.prog 23 #[u, x] w fun e w' => e = .returned (.string (mkS (lineL ws r))) ∧ w = w' := by
  obtain ⟨a1, c1, rfl, g1, g2, g3⟩ := hu.parts
  obtain ⟨a2, c2, rfl, k1, k2, k3⟩ := hx
  have G3 := Keep.mk g3
  have K3 := Keep.mk k3
  have HS := Keep.mk hs
  have HM := Keep.mk hsm
  have HF := Keep.mk hf
  have hw8 : ws.length ≤ 8 := hs.1
  unfold maxLen at g2 k2
  clear g3 k3 hs hsm hf hu
  go_enter Try.func23, Try.ntmps23
  go_wp2
  go_loop [5, 6] (fun x i => ∃ (k : Nat) (s : ByteArray), k ≤ ws.length ∧ i = .int .i64 k ∧ x = .string s ∧ s.size ≤ 1 + 100 * k ∧ Keep (s = mkS (lineTo ws r k))) (fun _ i => ws.length - (intOf i).toNat)
  case atStart => exact ⟨0, ⟨#[124]⟩, Nat.zero_le _, rfl, rfl, by decide, ⟨rfl⟩⟩
  case round =>
    obtain ⟨k, s, hk, rfl, rfl, hsz, hS⟩ := hrel
    by_cases hlt : k < ws.length
    · have hwk := HS.out.2 k
      have hck := HF.out k hlt
      have hc30 := small_cell HM.out k
      obtain ⟨b2, o2, rfl, hb2, hcw⟩ := K3.out k (ws.getD k 0) (by rw [List.getD_eq_getElem?_getD, List.getElem?_eq_getElem hlt]; rfl)
      obtain ⟨c, hc⟩ : ∃ c, c = cellAt r k := ⟨_, rfl⟩
      obtain ⟨y, hy⟩ : ∃ y, y = ws.getD k 0 := ⟨_, rfl⟩
      have hbl := Keep.mk (fun (wx : World) => blanks_any (y - c.size) wx (by omega))
      obtain ⟨d, hd⟩ : ∃ d, d = mkS (List.replicate (y - c.size) 32) := ⟨_, rfl⟩
      have hdz : d.size = y - c.size := by rw [hd, size_mkS]; simp
      obtain ⟨s1, h1⟩ : ∃ s1, s1 = s ++ ⟨#[32]⟩ := ⟨_, rfl⟩
      obtain ⟨s2, h2⟩ : ∃ s2, s2 = s1 ++ c := ⟨_, rfl⟩
      obtain ⟨s3, h3⟩ : ∃ s3, s3 = s2 ++ d := ⟨_, rfl⟩
      obtain ⟨s4, h4⟩ : ∃ s4, s4 = s3 ++ ⟨#[32, 124]⟩ := ⟨_, rfl⟩
      rw [← hc] at hck hc30
      rw [← hy] at hck hwk hcw
      rw [← hd] at hbl
      have z1 : s1.size = s.size + 1 := by rw [h1, ByteArray.size_append]; rfl
      have z2 : s2.size = s1.size + c.size := by rw [h2, ByteArray.size_append]
      have z3 : s3.size = s2.size + d.size := by rw [h3, ByteArray.size_append]
      have z4 : s4.size = s3.size + 2 := by rw [h4, ByteArray.size_append]; rfl
      have cat1 := fun (wx : World) => run_string_add_sum (P := Try.prog) wx s ⟨#[32]⟩ (by rw [show (⟨#[32]⟩ : ByteArray).size = 1 from rfl]; omega)
      have cat2 := fun (wx : World) => run_string_add_sum (P := Try.prog) wx s1 c (by omega)
      have cat3 := fun (wx : World) => run_string_add_sum (P := Try.prog) wx s2 d (by omega)
      have cat4 := fun (wx : World) => run_string_add_sum (P := Try.prog) wx s3 ⟨#[32, 124]⟩ (by rw [show (⟨#[32, 124]⟩ : ByteArray).size = 2 from rfl]; omega)
      rw [← h1] at cat1
      rw [← h2] at cat2
      rw [← h3] at cat3
      rw [← h4] at cat4
      have hS4 : Keep (s4 = mkS (lineTo ws r (k + 1))) := ⟨by
        rw [h4, h3, h2, h1, hS.out, hd, lineTo, padL, ← hc, ← hy]
        apply ByteArray.ext
        simp [mkS]⟩
      have hz4 : s4.size ≤ 1 + 100 * (k + 1) := by omega
      have hsub : (y : Int) - (c.size : Int) = ((y - c.size : Nat) : Int) := by omega
      have HSUB := Keep.mk hsub
      have hcsz : (c.size : Int) ≤ (y : Int) := by omega
      clear h1 h2 h3 h4 hd hy hsub z1 z2 z3 z4 hdz
      by_cases hkr : k < r.length
      · obtain ⟨b1, o1, rfl, hb1, hcc⟩ := G3.out k c (by rw [hc]; unfold cellAt; rw [List.getD_eq_getElem?_getD, List.getElem?_eq_getElem hkr]; rfl)
        clear hc
        go_wp2_with fail
        rw [HSUB.out]
        refine (hbl.out _).mono ?_
        rintro e w' ⟨rfl, rfl⟩
        go_wp2
        go_round
        case rel => exact ⟨k + 1, s4, by omega, by go_num, rfl, hz4, hS4⟩
        case measure => simp [intOf]; omega
      · have hce : c = ⟨#[]⟩ := by rw [hc]; unfold cellAt; rw [List.getD_eq_getElem?_getD, List.getElem?_eq_none (by omega)]; rfl
        clear hc
        subst hce
        have e0 : y - (⟨#[]⟩ : ByteArray).size = y := Nat.sub_zero y
        rw [e0] at hbl
        clear e0
        go_wp2_with fail
        refine (hbl.out _).mono ?_
        rintro e w' ⟨rfl, rfl⟩
        go_wp2
        go_round
        case rel => exact ⟨k + 1, s4, by omega, by go_num, rfl, hz4, hS4⟩
        case measure => simp [intOf]; omega
    · have hkn : Keep (k = ws.length) := ⟨by omega⟩
      go_wp2
      go_ret
      exact ⟨by rw [hS.out, hkn.out]; rfl, rfl⟩
end Go.Proofs.Ytofhokggcpeldaa
