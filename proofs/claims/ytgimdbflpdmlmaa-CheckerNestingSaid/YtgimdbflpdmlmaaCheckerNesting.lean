/- CheckerNesting: a sum nested to the right n times is valid if and only if n + 1 is at most 200; nested to the left it always is. No condition. -/
import Derived.Test.YtgimdbflpdmlmaaCkNest
import Derived.Test.YtgimdbflpdmlmaaLaw
import Derived.Test.YtgimdbflpdmlmaaOpenSlice
namespace Go.Proofs.Ytgimdbflpdmlmaa
set_option maxRecDepth 100000
open Go.RowKit Go.Shelf Go.Proofs.Ytgimdbflpdmlmaa.Ck Go.ChangeShapes Go.WideShapes Go.ChangeAt

/-- Block R holds this expression, its trees behind R and L. -/
def BoxE (w : World) (base R : Nat) (e : Ex) : Prop := ∃ n u, w.heap[R]? = some (.cells #[.string e.op, .int .u32 e.num, .string e.name, u] 42 (0, 0)) ∧ ExsIn w base n u e.args
theorem BoxE.kept {w w' : World} {base R : Nat} {e : Ex} (h : BoxE w base R e) (hs : w.heap.size ≤ w'.heap.size) (hR : w'.heap[R]? = w.heap[R]?) (hk : ∀ k, k < w.heap.size → base ≤ k → w'.heap[k]? = w.heap[k]?) : BoxE w' base R e := by
  obtain ⟨n, u, h1, h2⟩ := h
  exact ⟨n, u, hR.trans h1, h2.kept (R := R) hs hk⟩
theorem BoxE.below {w w' : World} {base R : Nat} {e : Ex} (h : BoxE w base R e) (hb : Below w.heap.size w w') : BoxE w' base R e := by
  have hl : R < w.heap.size := by obtain ⟨n, u, h1, _⟩ := h; exact (Array.getElem?_eq_some_iff.1 h1).1
  exact h.kept hb.size (hb.block R hl) (fun k hk _ => hb.block k hk)
theorem BoxE.lt {w : World} {base R : Nat} {e : Ex} (h : BoxE w base R e) : R < w.heap.size := by obtain ⟨n, u, h1, _⟩ := h; exact (Array.getElem?_eq_some_iff.1 h1).1

theorem nest_step {w wr w6 W : World} {base R O n : Nat} {e e' a b : Ex} {ua ub : Value} (hb6 : Below wr.heap.size wr w6) (hR : BoxE wr base R e) (hO : BoxE wr base O e') (hne : R ≠ O) (hRb : R < base) (hbase : base ≤ wr.heap.size) (hw : Below w.heap.size w wr) (hwR : w.heap.size ≤ R)
    (ha : ExsIn wr base n ua a.args) (hb : ExsIn wr base n ub b.args)
    (hW : W = (((((w6.setCell ⟨R, 0, none⟩ (.string ⟨#[43]⟩)).setCell ⟨R, 1, none⟩ (.int .u32 0)).setCell ⟨R, 2, none⟩ (.string ⟨#[]⟩)).setCell ⟨R, 3, none⟩ (.slice (some ⟨w6.heap.size, 0, none⟩) 2 2)).alloc (.cells #[.string a.op, .int .u32 a.num, .string a.name, ua, .string b.op, .int .u32 b.num, .string b.name, ub] 42))) :
    BoxE W base R (.mk sAdd 0 ⟨#[]⟩ [a, b]) ∧ BoxE W base O e' ∧ Below w.heap.size w W := by
  have hsz6 := hb6.size
  have hO6 := hO.below hb6
  obtain ⟨m, u, hx, _⟩ := hR.below hb6
  have ha6 : ExsIn w6 base n ua a.args := ha.kept (R := R) hsz6 (fun k hk _ => hb6.block k hk)
  have hb6' : ExsIn w6 base n ub b.args := hb.kept (R := R) hsz6 (fun k hk _ => hb6.block k hk)
  have e1 := heap_setCell_same w6 R 0 _ _ (.string ⟨#[43]⟩) hx
  have e2 := heap_setCell_same _ R 1 _ _ (.int .u32 0) e1
  have e3 := heap_setCell_same _ R 2 _ _ (.string ⟨#[]⟩) e2
  have e4 := heap_setCell_same _ R 3 _ _ (.slice (some ⟨w6.heap.size, 0, none⟩) 2 2) e3
  have g := grown_trans (grown_trans (grown_trans (grown_setCell w6 ⟨R, 0, none⟩ (.string ⟨#[43]⟩)) (grown_setCell _ ⟨R, 1, none⟩ (.int .u32 0))) (grown_setCell _ ⟨R, 2, none⟩ (.string ⟨#[]⟩))) (grown_setCell _ ⟨R, 3, none⟩ (.slice (some ⟨w6.heap.size, 0, none⟩) 2 2))
  have hs : ((((w6.setCell ⟨R, 0, none⟩ (.string ⟨#[43]⟩)).setCell ⟨R, 1, none⟩ (.int .u32 0)).setCell ⟨R, 2, none⟩ (.string ⟨#[]⟩)).setCell ⟨R, 3, none⟩ (.slice (some ⟨w6.heap.size, 0, none⟩) 2 2)).heap.size = w6.heap.size := by simp [World.setCell]
  generalize ((((w6.setCell ⟨R, 0, none⟩ (.string ⟨#[43]⟩)).setCell ⟨R, 1, none⟩ (.int .u32 0)).setCell ⟨R, 2, none⟩ (.string ⟨#[]⟩)).setCell ⟨R, 3, none⟩ (.slice (some ⟨w6.heap.size, 0, none⟩) 2 2)) = ws at *
  have hbw : Below ws.heap.size ws W := by rw [hW]; exact (Below.refl _ _).alloc (Nat.le_refl _) _
  have hX : W.heap[w6.heap.size]? = some (.cells #[.string a.op, .int .u32 a.num, .string a.name, ua, .string b.op, .int .u32 b.num, .string b.name, ub] 42 (0, 0)) := by rw [hW, ← hs]; exact heap_alloc_new ws _
  have hne' : ∀ {k : Nat}, k ≠ R → some k ≠ some R := fun h e => h (Option.some.inj e)
  have hk : ∀ k, k < w6.heap.size → base ≤ k → W.heap[k]? = w6.heap[k]? := fun k hk hb => (hbw.block k (by omega)).trans (g.block k hk (hne' (by omega)))
  have hWs : w6.heap.size ≤ W.heap.size := by have := hbw.size; omega
  have hRl : R < w6.heap.size := (Array.getElem?_eq_some_iff.1 hx).1
  refine ⟨⟨n + 1, .slice (some ⟨w6.heap.size, 0, none⟩) 2 2, (hbw.block R (by omega)).trans e4, ?_⟩, ?_, ?_⟩
  · exact ExsIn.two (by omega) hX (ha6.kept (R := R) hWs hk) (hb6'.kept (R := R) hWs hk)
  · exact hO6.kept hWs ((hbw.block O (by have := hO6.lt; omega)).trans (g.block O hO6.lt (hne' (fun h => hne h.symm)))) hk
  · have h1 := hw.trans (hb6.mono hw.size)
    have h2 := h1.grown g h1.size (fun k hk => by cases hk; exact hwR)
    exact h2.trans (hbw.mono h2.size)
theorem assign_cellsE {w' : World} {v : Value} {e : Ex} (x : ByteArray) (h : StV w' v (assignS x e)) : ∃ n ui uv ut ue, v = .agg #[.int .i64 1, .string x, ui, uv, ut, ue] ∧
    ∀ T, StsAt (w'.alloc (.cells #[.int .i64 1, .string x, ui, uv, ut, ue] T)) (n + 1) (.slice (some ⟨w'.heap.size, 0, none⟩) 1 1) [assignS x e] ∧ Below w'.heap.size w' (w'.alloc (.cells #[.int .i64 1, .string x, ui, uv, ut, ue] T)) := by
  obtain ⟨n, ui, uv, ut, ue, rfl, ⟨m1, g1⟩, ⟨m2, g2⟩, g3, g4⟩ := h
  refine ⟨n, ui, uv, ut, ue, rfl, fun T => ?_⟩
  have hb : Below w'.heap.size w' (w'.alloc (.cells #[.int .i64 1, .string x, ui, uv, ut, ue] T)) := (Below.refl _ _).alloc (Nat.le_refl _) _
  exact ⟨StsAt.one (s := assignS x e) (heap_alloc_new w' _) ⟨m1, g1.below hb (Nat.le_refl _)⟩ ⟨m2, g2.below hb (Nat.le_refl _)⟩ (g3.below hb (Nat.le_refl _)) (g4.below hb (Nat.le_refl _)), hb⟩
set_option maxHeartbeats 8000000 in
theorem checkerNesting_any (n : Nat) (w : World) (hn : n ≤ 65535) :
    Calls Try.prog 5 #[.int .u16 n] w fun e w' => e = .returned (.bool true) ∧ Below w.heap.size w w' := by
  go_enter Try.func5, Try.ntmps5
  go_wp2_with fail
  refine (alive_any w).mono ?_
  rintro _ w1 ⟨rfl, hb1⟩
  have HB1 := Keep.mk hb1
  clear hb1
  have hA : (n : Int).tmod 400 = ((n % 400 : Nat) : Int) := rfl
  have hk4 : n % 400 < 400 := Nat.mod_lt _ (by omega)
  generalize n % 400 = K at *
  go_wp2_with fail
  refine (num_any 1 w1).mono ?_
  rintro _ w2 ⟨rfl, hb2⟩
  have HB2 := Keep.mk (HB1.out.trans (hb2.mono HB1.out.size))
  clear hb2
  go_wp2_with fail
  refine (num_any 1 w2).mono ?_
  rintro _ w3 ⟨rfl, hb3⟩
  have HB3 := Keep.mk (HB2.out.trans (hb3.mono HB2.out.size))
  clear hb3 HB1 HB2
  go_upto_region 5 with (fail)
  obtain ⟨R, hR⟩ : ∃ R, R = w3.heap.size := ⟨_, rfl⟩
  have ha1 : Below w3.heap.size w3 (w3.alloc (.cells #[.string sNum, .int .u32 1, .string ⟨#[]⟩, .slice none 0 0] 42)) := (Below.refl _ _).alloc (Nat.le_refl _) _
  have he1 := heap_alloc_new w3 (.cells #[.string sNum, .int .u32 1, .string ⟨#[]⟩, .slice none 0 0] 42)
  have hs1 : (w3.alloc (.cells #[.string sNum, .int .u32 1, .string ⟨#[]⟩, .slice none 0 0] 42)).heap.size = R + 1 := by rw [World.size_alloc, hR]
  have hw1 := HB3.out.trans (ha1.mono HB3.out.size)
  rw [← hR] at he1 ⊢
  generalize (w3.alloc (.cells #[.string sNum, .int .u32 1, .string ⟨#[]⟩, .slice none 0 0] 42)) = w4 at *
  have ha2 : Below w4.heap.size w4 (w4.alloc (.cells #[.string sNum, .int .u32 1, .string ⟨#[]⟩, .slice none 0 0] 42)) := (Below.refl _ _).alloc (Nat.le_refl _) _
  have he2 := heap_alloc_new w4 (.cells #[.string sNum, .int .u32 1, .string ⟨#[]⟩, .slice none 0 0] 42)
  rw [hs1] at he2
  have he1' := (ha2.block R (by omega)).trans he1
  have HB5 := Keep.mk (hw1.trans (ha2.mono hw1.size))
  have HR5 : Keep (BoxE (w4.alloc (.cells #[.string sNum, .int .u32 1, .string ⟨#[]⟩, .slice none 0 0] 42)) (R + 2) R (rightE 0)) := ⟨0, _, he1', ExsIn.nil _ _ _⟩
  have HL5 : Keep (BoxE (w4.alloc (.cells #[.string sNum, .int .u32 1, .string ⟨#[]⟩, .slice none 0 0] 42)) (R + 2) (R + 1) (leftE 0)) := ⟨0, _, he2, ExsIn.nil _ _ _⟩
  have hwR : w.heap.size ≤ R := by rw [hR]; exact HB3.out.size
  clear ha1 he1 hs1 hw1 ha2 he2 he1' HB3 hR
  generalize (w4.alloc (.cells #[.string sNum, .int .u32 1, .string ⟨#[]⟩, .slice none 0 0] 42)) = w5 at *
  go_wp2_with fail
  go_loopw [18] (fun i wr => ∃ k : Nat, k ≤ K ∧ i = .int .i64 k ∧ Keep (BoxE wr (R + 2) R (rightE k)) ∧ Keep (BoxE wr (R + 2) (R + 1) (leftE k)) ∧ Keep (Below w.heap.size w wr)) (fun i _ => K - (intOf i).toNat)
  case atStart => exact ⟨0, Nat.zero_le _, rfl, HR5, HL5, HB5⟩
  case round =>
    obtain ⟨k, hk, rfl, HRr, HLr, HBr⟩ := hrel
    clear HR5 HL5 HB5
    by_cases hlt : k < K
    · have k1 : (k : Int) < (K : Int) := by omega
      go_upto_region 7 with (fail)
      go_cut [23] from 20 to 24 (fun _ wx => BoxE wx (R + 2) R (rightE (k + 1)) ∧ BoxE wx (R + 2) (R + 1) (leftE k) ∧ Below w.heap.size w wx)
      case first =>
        obtain ⟨m, u, h1, h2⟩ := id HRr.out
        obtain ⟨ua, uc, rfl, _, _⟩ := h2.at.len
        have HX := Keep.mk h1
        have H2 := Keep.mk h2
        have r0 : wr.cell? ⟨R, 0, none⟩ = some (.string (rightE k).op) := by simp [World.cell?, h1]
        have r1 : wr.cell? ⟨R, 1, none⟩ = some (.int .u32 (rightE k).num) := by simp [World.cell?, h1]
        have r2 : wr.cell? ⟨R, 2, none⟩ = some (.string (rightE k).name) := by simp [World.cell?, h1]
        have r3 : wr.cell? ⟨R, 3, none⟩ = some (.slice ua (rightE k).args.length uc) := by simp [World.cell?, h1]
        have rl : R < wr.heap.size := (Array.getElem?_eq_some_iff.1 h1).1
        clear h1 h2
        have HN6 : Keep (∀ W : World, W = wr.drew → Calls Try.prog 16 #[.int .u32 2] W fun e w6 => e = .returned (.agg #[.string sNum, .int .u32 2, .string ⟨#[]⟩, .slice none 0 0]) ∧ (Below wr.heap.size wr w6 ∧ (w6.cell? ⟨R, 0, none⟩ = some (.string (rightE k).op) ∧ w6.cell? ⟨R, 1, none⟩ = some (.int .u32 (rightE k).num) ∧ w6.cell? ⟨R, 2, none⟩ = some (.string (rightE k).name) ∧ w6.cell? ⟨R, 3, none⟩ = some (.slice ua (rightE k).args.length uc)) ∧ (w6.frozen? ⟨R, 0, none⟩ = false ∧ w6.frozen? ⟨R, 1, none⟩ = false ∧ w6.frozen? ⟨R, 2, none⟩ = false ∧ w6.frozen? ⟨R, 3, none⟩ = false) ∧ R < w6.heap.size)) := ⟨fun W hW => (num_any 2 W).mono (by
          rintro e w6 ⟨rfl, hb6⟩
          subst hW
          have hb := Below.trans (Below.refl wr.heap.size wr).drew hb6
          have hx6 := (hb.block R rl).trans HX.out
          refine ⟨rfl, hb, ⟨?_, ?_, ?_, ?_⟩, ⟨?_, ?_, ?_, ?_⟩, (Array.getElem?_eq_some_iff.1 hx6).1⟩ <;> simp [World.cell?, World.frozen?, hx6])⟩
        go_region_with (first
          | (go_at_call 16; (refine (HN6.out _ rfl).mono ?_); rintro _ w6 ⟨rfl, hb6, ⟨q0, q1, q2, q3⟩, ⟨f0, f1, f2, f3⟩, ql⟩; have HB6 := Keep.mk hb6; clear hb6))
        all_goals (go_wp2; go_meet)
        all_goals exact nest_step HB6.out HRr.out HLr.out (by omega) (by omega) (by have := HLr.out.lt; omega) HBr.out hwR (a := numE 2) (b := rightE k) (ExsIn.nil _ _ _) H2.out rfl
      case rest =>
        have HRr' := Keep.mk hcut.1
        have HLr' := Keep.mk hcut.2.1
        have HBr' := Keep.mk hcut.2.2
        clear hcut HRr HLr HBr
        go_upto_region 8 with (fail)
        generalize wc = wp at *
        obtain ⟨m, u, h1, h2⟩ := id HLr'.out
        obtain ⟨ua, uc, rfl, _, _⟩ := h2.at.len
        have HX := Keep.mk h1
        have H2 := Keep.mk h2
        have r0 : wp.cell? ⟨R + 1, 0, none⟩ = some (.string (leftE k).op) := by simp [World.cell?, h1]
        have r1 : wp.cell? ⟨R + 1, 1, none⟩ = some (.int .u32 (leftE k).num) := by simp [World.cell?, h1]
        have r2 : wp.cell? ⟨R + 1, 2, none⟩ = some (.string (leftE k).name) := by simp [World.cell?, h1]
        have r3 : wp.cell? ⟨R + 1, 3, none⟩ = some (.slice ua (leftE k).args.length uc) := by simp [World.cell?, h1]
        have rl : R + 1 < wp.heap.size := (Array.getElem?_eq_some_iff.1 h1).1
        clear h1 h2
        have HN6 : Keep (∀ W : World, W = wp.drew → Calls Try.prog 16 #[.int .u32 2] W fun e w6 => e = .returned (.agg #[.string sNum, .int .u32 2, .string ⟨#[]⟩, .slice none 0 0]) ∧ (Below wp.heap.size wp w6 ∧ (w6.cell? ⟨R + 1, 0, none⟩ = some (.string (leftE k).op) ∧ w6.cell? ⟨R + 1, 1, none⟩ = some (.int .u32 (leftE k).num) ∧ w6.cell? ⟨R + 1, 2, none⟩ = some (.string (leftE k).name) ∧ w6.cell? ⟨R + 1, 3, none⟩ = some (.slice ua (leftE k).args.length uc)) ∧ (w6.frozen? ⟨R + 1, 0, none⟩ = false ∧ w6.frozen? ⟨R + 1, 1, none⟩ = false ∧ w6.frozen? ⟨R + 1, 2, none⟩ = false ∧ w6.frozen? ⟨R + 1, 3, none⟩ = false) ∧ R + 1 < w6.heap.size)) := ⟨fun W hW => (num_any 2 W).mono (by
          rintro e w6 ⟨rfl, hb6⟩
          subst hW
          have hb := Below.trans (Below.refl wp.heap.size wp).drew hb6
          have hx6 := (hb.block (R + 1) rl).trans HX.out
          refine ⟨rfl, hb, ⟨?_, ?_, ?_, ?_⟩, ⟨?_, ?_, ?_, ?_⟩, (Array.getElem?_eq_some_iff.1 hx6).1⟩ <;> simp [World.cell?, World.frozen?, hx6])⟩
        go_region_with (first
          | (go_at_call 16; (refine (HN6.out _ rfl).mono ?_); rintro _ w6 ⟨rfl, hb6, ⟨q0, q1, q2, q3⟩, ⟨f0, f1, f2, f3⟩, ql⟩; have HB6 := Keep.mk hb6; clear hb6))
        all_goals (go_wp2_with fail)
        all_goals go_roundw
        all_goals first
          | (case rel =>
              have h := nest_step HB6.out HLr'.out HRr'.out (by omega) (by omega) (by have := HLr'.out.lt; omega) HBr'.out (by omega) (a := leftE k) (b := numE 2) H2.out (ExsIn.nil _ _ _) rfl
              exact ⟨k + 1, by omega, by go_num, ⟨h.2.1⟩, ⟨h.1⟩, ⟨h.2.2⟩⟩)
          | (case measure => simp [intOf]; omega)
    · have k1 : ¬ (k : Int) < (K : Int) := by omega
      obtain rfl : k = K := by omega
      go_upto_region 10 with (fail)
      obtain ⟨ma, va, g1, g2⟩ := id HRr.out
      obtain ⟨vaa, vca, rfl, _, _⟩ := g2.at.len
      have Ga := Keep.mk g2
      have r0 : wr.cell? ⟨R, 0, none⟩ = some (.string (rightE k).op) := by simp [World.cell?, g1]
      have r1 : wr.cell? ⟨R, 1, none⟩ = some (.int .u32 (rightE k).num) := by simp [World.cell?, g1]
      have r2 : wr.cell? ⟨R, 2, none⟩ = some (.string (rightE k).name) := by simp [World.cell?, g1]
      have r3 : wr.cell? ⟨R, 3, none⟩ = some (.slice vaa (rightE k).args.length vca) := by simp [World.cell?, g1]
      have rl : R < wr.heap.size := (Array.getElem?_eq_some_iff.1 g1).1
      clear g1 g2
      have HVa := Keep.mk (strs_one wr sX)
      have hba : Below wr.heap.size wr (wr.alloc (.cells #[.string ⟨#[120]⟩] 9)) := (Below.refl _ _).alloc (Nat.le_refl _) _
      have Ba1 := Keep.mk hba
      have HAa := Keep.mk (assign_any (v := .agg #[.string (rightE k).op, .int .u32 (rightE k).num, .string (rightE k).name, .slice vaa (rightE k).args.length vca]) (e := rightE k) ⟨ma, _, rfl, Ga.out.at.below hba (Nat.le_refl _)⟩ sX)
      clear hba
      go_wp2_with fail
      refine HAa.out.mono ?_
      rintro _ ya ⟨sv, rfl, hs3, hb3⟩
      clear r0 r1 r2 r3 rl HAa
      obtain ⟨na, ui, uv, ut, ue, rfl, hst⟩ := assign_cellsE (w' := ya) sX hs3
      have Ba2 := Keep.mk (Ba1.out.trans (hb3.mono Ba1.out.size))
      obtain ⟨hst1, hst2⟩ := hst 46
      have HOa := Keep.mk (one_any (((HVa.out.below hb3 (Nat.le_refl _))).below hst2 (Nat.le_refl _)) hst1)
      have Ba3 := Keep.mk (Ba2.out.trans (hst2.mono Ba2.out.size))
      clear hs3 hb3 hst hst1 hst2
      go_wp2_with fail
      refine HOa.out.mono ?_
      rintro _ za ⟨fs, rfl, hp, hb5⟩
      have Ba4 := Keep.mk (Ba3.out.trans (hb5.mono Ba3.out.size))
      have HCa := Keep.mk (check_any hp (fits_one (by rw [nodes_right]; omega)))
      rw [check_right] at HCa
      obtain ⟨af, cf, rfl, _, _⟩ := hp.2.2.len
      clear hp hb5 HOa
      go_wp2_with fail
      refine HCa.out.mono ?_
      rintro _ ua ⟨rfl, hb6⟩
      have Ba := Keep.mk (Ba4.out.trans (hb6.mono Ba4.out.size))
      have La := Keep.mk (HBr.out.trans (Ba.out.mono HBr.out.size))
      clear hb6 HCa Ba1 Ba2 Ba3 Ba4 HVa
      have HLa := Keep.mk (HLr.out.below Ba.out)
      clear HRr HLr HBr Ba
      generalize hq : (if k + 1 ≤ 200 then ((⟨#[]⟩, 0) : Viol) else (⟨#[109, 97, 105, 110]⟩, 6)) = qv at *
      have HQV := Keep.mk hq
      clear hq
      obtain ⟨mb, vb, g1, g2⟩ := id HLa.out
      obtain ⟨vab, vcb, rfl, _, _⟩ := g2.at.len
      have Gb := Keep.mk g2
      have r0 : ua.cell? ⟨R + 1, 0, none⟩ = some (.string (leftE k).op) := by simp [World.cell?, g1]
      have r1 : ua.cell? ⟨R + 1, 1, none⟩ = some (.int .u32 (leftE k).num) := by simp [World.cell?, g1]
      have r2 : ua.cell? ⟨R + 1, 2, none⟩ = some (.string (leftE k).name) := by simp [World.cell?, g1]
      have r3 : ua.cell? ⟨R + 1, 3, none⟩ = some (.slice vab (leftE k).args.length vcb) := by simp [World.cell?, g1]
      have rl : R + 1 < ua.heap.size := (Array.getElem?_eq_some_iff.1 g1).1
      clear g1 g2
      have HVb := Keep.mk (strs_one ua sX)
      have hba : Below ua.heap.size ua (ua.alloc (.cells #[.string ⟨#[120]⟩] 9)) := (Below.refl _ _).alloc (Nat.le_refl _) _
      have Bb1 := Keep.mk hba
      have HAb := Keep.mk (assign_any (v := .agg #[.string (leftE k).op, .int .u32 (leftE k).num, .string (leftE k).name, .slice vab (leftE k).args.length vcb]) (e := leftE k) ⟨mb, _, rfl, Gb.out.at.below hba (Nat.le_refl _)⟩ sX)
      clear hba
      go_wp2_with fail
      refine HAb.out.mono ?_
      rintro _ yb ⟨sv, rfl, hs3, hb3⟩
      clear r0 r1 r2 r3 rl HAb
      obtain ⟨nb, ui, uv, ut, ue, rfl, hst⟩ := assign_cellsE (w' := yb) sX hs3
      have Bb2 := Keep.mk (Bb1.out.trans (hb3.mono Bb1.out.size))
      obtain ⟨hst1, hst2⟩ := hst 46
      have HOb := Keep.mk (one_any (((HVb.out.below hb3 (Nat.le_refl _))).below hst2 (Nat.le_refl _)) hst1)
      have Bb3 := Keep.mk (Bb2.out.trans (hst2.mono Bb2.out.size))
      clear hs3 hb3 hst hst1 hst2
      go_wp2_with fail
      refine HOb.out.mono ?_
      rintro _ zb ⟨fs, rfl, hp, hb5⟩
      have Bb4 := Keep.mk (Bb3.out.trans (hb5.mono Bb3.out.size))
      have HCb := Keep.mk (check_any hp (fits_one (by rw [nodes_left]; omega)))
      rw [check_left] at HCb
      obtain ⟨af, cf, rfl, _, _⟩ := hp.2.2.len
      clear hp hb5 HOb
      go_wp2_with fail
      refine HCb.out.mono ?_
      rintro _ ub ⟨rfl, hb6⟩
      have Bb := Keep.mk (Bb4.out.trans (hb6.mono Bb4.out.size))
      have Lb := Keep.mk (La.out.trans (Bb.out.mono La.out.size))
      clear hb6 HCb Bb1 Bb2 Bb3 Bb4 HVb
      clear HLa La Bb
      by_cases g : k + 1 ≤ 200
      · obtain rfl : qv = (⟨#[]⟩, 0) := by rw [← HQV.out, if_pos g]
        have g1 : (k : Int) + 1 ≤ 200 := by omega
        clear g HQV
        go_wp2_with fail
        go_ret
        exact ⟨rfl, Lb.out⟩
      · obtain rfl : qv = (⟨#[109, 97, 105, 110]⟩, 6) := by rw [← HQV.out, if_neg g]
        have g1 : ¬ (k : Int) + 1 ≤ 200 := by omega
        clear g HQV
        go_wp2_with fail
        go_ret
        exact ⟨rfl, Lb.out⟩

theorem CheckerNesting_walk : LawWalk 5 Try.f5 := by
  intro H enc W base args ds ps hval hA hsz
  rw [Try.params5] at hA hval hsz
  obtain ⟨v0, vs0, d0, ds0, p0, q0, hargs, rfl, rfl, h0, r0⟩ := trodAll_cons hA
  obtain ⟨rfl, rfl, rfl⟩ := trodAll_nil r0
  obtain rfl : args = #[v0] := by cases args; simp_all
  obtain ⟨n, rfl, rfl, rfl, hn⟩ := open_int Try.underlying38 (hval 0 38 v0 rfl rfl) h0
  have hn' : 0 ≤ n ∧ n ≤ 65535 := by simpa [Lit.wf, IntKind.min, IntKind.max, IntKind.signed, IntKind.bits] using hn
  obtain ⟨n, rfl⟩ := Int.eq_ofNat_of_zero_le hn'.1
  exact checkerNesting_any n W (by omega)
end Go.Proofs.Ytgimdbflpdmlmaa
namespace Go.Proofs.Ytgimdbflpdmlmaa
open Go.ChangeShapes Go.WideShapes Go.ChangeAt Go.RowKit
set_option maxRecDepth 100000 in
theorem CheckerNesting_lifted (os : Os) (started : os.Started) (H : Type) (enc : TypeId × Value → H) :
    ReturnsInHanded {} Try.checked os 5 .any (Rows.checkerNestingSpec.pre6 enc Try.prog Try.f5 Rows.checkerNestingRow.domain false) (Rows.checkerNestingSpec.post enc Try.prog Try.f5 false true false false) := by
  refine returnsInHanded_of_change_sized (C := Try.checked) own started (by kernel_rfl) Try.func5
    (ChangeSpec.witness6 (enc := enc) (C := Try.checked) false ⟨#[], #[.int .u16 0], []⟩ 8 (by kernel_rfl) (by kernel_rfl) (by kernel_rfl) (by kernel_rfl)) ?_
  exact law_contract (by kernel_rfl) (by kernel_rfl) ⟨rfl, fun H ds h => by rw [Try.params5] at h; match ds, h with | [d0], _ => rfl⟩ CheckerNesting_walk
theorem CheckerNesting_over : Rows.checkerNestingRow.holds Try.pinned (OpenSpec.ofChange Rows.checkerNestingSpec) :=
  OpenClaim.holds_of_wide 5 Try.f5 rfl rfl rfl rfl rfl rfl rfl ⟨rfl, rfl, rfl, rfl, rfl⟩ rfl rfl rfl rfl rfl (by kernel_rfl) Try.func5 (by kernel_rfl)
    (of_decide_eq_true (by kernel_rfl)) (by unfold Func.isWrapper; first | (rw [if_pos (by decide +kernel)]; kernel_rfl) | (rw [if_neg (by decide +kernel)]; exact ⟨rfl, rfl⟩))
    (fun os started H enc _ => CheckerNesting_lifted os started H enc)
theorem CheckerNesting_proved : Rows.CheckerNestingSaid := CheckerNesting_over
end Go.Proofs.Ytgimdbflpdmlmaa
