/- The checker's Check. Condition: bounds. -/
import Derived.Test.YtgimdbflpdmlmaaCkProgram
import Derived.Recover
import Derived.Defers
namespace Go.Proofs.Ytgimdbflpdmlmaa
set_option maxRecDepth 100000
open Go.RowKit Go.Shelf Go.Proofs.Ytgimdbflpdmlmaa.Ck

set_option maxHeartbeats 4000000 in
theorem catch_viol (P Q : Nat) (nm : ByteArray) (e0 : Int) (v : Viol) (w : World) (hP : w.heap[P]? = some (.cells #[.string nm] 9 (0, 0))) (hQ : w.heap[Q]? = some (.cells #[.int .i64 e0] 29 (0, 0))) (hPQ : P ≠ Q) :
    CallsD Try.prog 29 #[.pointer (some ⟨P, 0, none⟩), .pointer (some ⟨Q, 0, none⟩)] (.panicking [{ v := violV v, recovered := false }]) w fun e u' w' =>
      e = .returned (.tuple #[]) ∧ u' = .panicking [{ v := violV v, recovered := true }] ∧ w'.heap[P]? = some (.cells #[.string v.1] 9 (0, 0)) ∧ w'.heap[Q]? = some (.cells #[.int .i64 v.2] 29 (0, 0)) ∧
      (∀ k, k < w.heap.size → k ≠ P → k ≠ Q → w'.heap[k]? = w.heap[k]?) ∧ w.heap.size ≤ w'.heap.size ∧ w'.os = w.os ∧ w'.tape = w.tape ∧ w'.output = w.output := by
  refine callsD_of_wpS Try.func29 rfl fun c₀ cs hu => ?_
  apply wpS_seq
  apply wpS_region
  simp [wpOpsS, go_sem, recoverD, hu, Try.ntmps29, Exit.thenS]
  obtain ⟨R, hR⟩ : ∃ R : Ending → FrameMode → World → Prop, R = fun e u' w' => e = Ending.returned (Value.tuple #[]) ∧ u' = FrameMode.panicking [{ v := violV v, recovered := true }] ∧ w'.heap[P]? = some (Obj.cells #[Value.string v.1] 9 (0, 0)) ∧ w'.heap[Q]? = some (Obj.cells #[Value.int IntKind.i64 v.2] 29 (0, 0)) ∧ (∀ (k : Nat), k < w.heap.size → ¬k = P → ¬k = Q → w'.heap[k]? = w.heap[k]?) ∧ w.heap.size ≤ w'.heap.size ∧ w'.os = w.os ∧ w'.tape = w.tape ∧ w'.output = w.output := ⟨_, rfl⟩
  rw [← hR]
  have HR := Keep.mk hR
  have hb : ∀ (tm : Array Value) (w' : World), R (.returned (.tuple #[])) (.panicking [{ v := violV v, recovered := true }]) w' → bodyPostS Try.prog Try.f29 c₀ cs R Exit.normal { tmps := tm, defers := [] } ({ fn := c₀.fn, tmps := c₀.tmps, todo := c₀.todo, defers := c₀.defers, mode := FrameMode.panicking [{ v := violV v, recovered := true }], kind := c₀.kind, roundOf := c₀.roundOf } :: cs) w' := fun tm w' h => by
    simp [bodyPostS, results, Try.results29, go_sem]
    exact h
  have HBP := Keep.mk hb
  clear hR hb
  refine wpS_of_wp ?_
  change Code.wp _ _ _ { tmps := #[.pointer (some ⟨P, 0, none⟩), .pointer (some ⟨Q, 0, none⟩), violV v, undef, undef, violV v, undef, undef, undef, undef, undef, undef, undef, undef, undef, undef, undef, undef, undef], defers := [] } w
  generalize hbp : (fun e a' w' => bodyPostS Try.prog Try.f29 c₀ cs R e a' ({ fn := c₀.fn, tmps := c₀.tmps, todo := c₀.todo, defers := c₀.defers, mode := FrameMode.panicking [{ v := violV v, recovered := true }], kind := c₀.kind, roundOf := c₀.roundOf } :: cs) w') = QQ at *
  have HQQ : Keep (∀ (tm : Array Value) (w' : World), R (.returned (.tuple #[])) (.panicking [{ v := violV v, recovered := true }]) w' → QQ Exit.normal { tmps := tm, defers := [] } w') := ⟨fun tm w' h => by rw [← hbp]; exact HBP.out tm w' h⟩
  clear hbp HBP
  unfold violV
  have hta : ∀ w : World, (Instr.typeAssert (.iface 71 (.agg #[.string v.1, .int .i64 v.2])) 20 71 true).run Try.prog w = .ok (.tuple #[.agg #[.string v.1, .int .i64 v.2], .bool true]) w := fun w => by kernel_rfl
  go_upto_region 3 with (fail)
  have hZ : (w.alloc (.cells #[.string v.1, .int .i64 v.2] 71)).heap[w.heap.size]? = some (.cells #[.string v.1, .int .i64 v.2] 71 (0, 0)) := heap_alloc_new w _
  have hB : Below w.heap.size w (w.alloc (.cells #[.string v.1, .int .i64 v.2] 71)) := (Below.refl _ _).alloc (Nat.le_refl _) _
  have hP1 := (hB.block P (Array.getElem?_eq_some_iff.1 hP).1).trans hP
  have hQ1 := (hB.block Q (Array.getElem?_eq_some_iff.1 hQ).1).trans hQ
  have hPl : P < w.heap.size := (Array.getElem?_eq_some_iff.1 hP).1
  have hQl : Q < w.heap.size := (Array.getElem?_eq_some_iff.1 hQ).1
  have HB := Keep.mk hB
  have HP1 := Keep.mk hP1
  have HQ1 := Keep.mk hQ1
  have HZ := Keep.mk hZ
  have HN := Keep.mk (And.intro hPQ (And.intro hPl hQl))
  have HSZ : Keep ((w.alloc (.cells #[.string v.1, .int .i64 v.2] 71)).heap.size = w.heap.size + 1) := ⟨World.size_alloc ..⟩
  clear hZ hB hP1 hQ1 hP hQ
  obtain ⟨Z, hZ⟩ : ∃ Z, Z = w.heap.size := ⟨_, rfl⟩
  rw [← hZ] at HZ hPl hQl ⊢
  have HZE := Keep.mk hZ
  clear hZ
  generalize (w.alloc (.cells #[.string v.1, .int .i64 v.2] 71)) = w1 at *
  have z0 : w1.cell? ⟨Z, 0, none⟩ = some (.string v.1) := by simp [World.cell?, HZ.out]
  have z1 : w1.cell? ⟨Z, 1, none⟩ = some (.int .i64 v.2) := by simp [World.cell?, HZ.out]
  have p0 : w1.cell? ⟨P, 0, none⟩ = some (.string nm) := by simp [World.cell?, HP1.out]
  have q0 : w1.cell? ⟨Q, 0, none⟩ = some (.int .i64 e0) := by simp [World.cell?, HQ1.out]
  have pf : w1.frozen? ⟨P, 0, none⟩ = false := by simp [World.frozen?, HP1.out]
  have qf : w1.frozen? ⟨Q, 0, none⟩ = false := by simp [World.frozen?, HQ1.out]
  have zl : Z < w1.heap.size := (Array.getElem?_eq_some_iff.1 HZ.out).1
  have n1 : Z ≠ P := by omega
  have n2 : P ≠ Z := by omega
  have n3 : Z ≠ Q := by omega
  have n4 : Q ≠ P := fun e => hPQ e.symm
  go_region
  all_goals (
    refine HQQ.out _ _ ?_
    rw [HR.out]
    have hg1 := grown_setCell w1 ⟨P, 0, none⟩ (.string v.1)
    have hg2 := grown_setCell (w1.setCell ⟨P, 0, none⟩ (.string v.1)) ⟨Q, 0, none⟩ (.int .i64 v.2)
    have e1 := heap_setCell_same w1 P 0 _ _ (.string v.1) HP1.out
    have e2 := (Below.heap_setCell w1 ⟨P, 0, none⟩ (.string v.1) Q (fun h => HN.out.1 h.symm)).trans HQ1.out
    have e3 := heap_setCell_same _ Q 0 _ _ (.int .i64 v.2) e2
    have e4 := (Below.heap_setCell (w1.setCell ⟨P, 0, none⟩ (.string v.1)) ⟨Q, 0, none⟩ (.int .i64 v.2) P HN.out.1).trans e1
    have hsz := HSZ.out
    have hs2 : ((w1.setCell ⟨P, 0, none⟩ (.string v.1)).setCell ⟨Q, 0, none⟩ (.int .i64 v.2)).heap.size = w1.heap.size := by simp [World.setCell]
    refine ⟨rfl, rfl, e4, e3, fun k hk h1 h2 => ?_, ?_, HB.out.os, HB.out.tape, HB.out.output⟩
    · exact (Below.heap_setCell _ ⟨Q, 0, none⟩ _ k h2).trans ((Below.heap_setCell w1 ⟨P, 0, none⟩ _ k h1).trans (HB.out.block k hk))
    · show w.heap.size ≤ ((w1.setCell ⟨P, 0, none⟩ (.string v.1)).setCell ⟨Q, 0, none⟩ (.int .i64 v.2)).heap.size
      omega)

set_option maxHeartbeats 4000000 in
theorem catch_idle (P Q : Nat) (w : World) :
    CallsD Try.prog 29 #[.pointer (some ⟨P, 0, none⟩), .pointer (some ⟨Q, 0, none⟩)] .returning w fun e u' w' => e = .returned (.tuple #[]) ∧ u' = .returning ∧ Below w.heap.size w w' := by
  refine callsD_of_wpS Try.func29 rfl fun c₀ cs hu => ?_
  apply wpS_seq
  apply wpS_region
  simp [wpOpsS, go_sem, recoverD, hu, Try.ntmps29, Exit.thenS]
  obtain ⟨R, hR⟩ : ∃ R : Ending → FrameMode → World → Prop, R = fun e u' w' => e = Ending.returned (Value.tuple #[]) ∧ u' = FrameMode.returning ∧ Below w.heap.size w w' := ⟨_, rfl⟩
  rw [← hR]
  have HR := Keep.mk hR
  have hb : ∀ (tm : Array Value) (w' : World), R (.returned (.tuple #[])) .returning w' → bodyPostS Try.prog Try.f29 c₀ cs R Exit.normal { tmps := tm, defers := [] } (c₀ :: cs) w' := fun tm w' h => by
    cases c₀
    simp only at hu
    subst hu
    simp [bodyPostS, results, Try.results29, go_sem]
    exact h
  have HBP := Keep.mk hb
  clear hR hb
  refine wpS_of_wp ?_
  change Code.wp _ _ _ { tmps := #[.pointer (some ⟨P, 0, none⟩), .pointer (some ⟨Q, 0, none⟩), .nilIface, undef, undef, .nilIface, undef, undef, undef, undef, undef, undef, undef, undef, undef, undef, undef, undef, undef], defers := [] } w
  generalize hbp : (fun e a' w' => bodyPostS Try.prog Try.f29 c₀ cs R e a' (c₀ :: cs) w') = QQ at *
  have HQQ : Keep (∀ (tm : Array Value) (w' : World), R (.returned (.tuple #[])) .returning w' → QQ Exit.normal { tmps := tm, defers := [] } w') := ⟨fun tm w' h => by rw [← hbp]; exact HBP.out tm w' h⟩
  clear hbp HBP
  have hta : ∀ w : World, (Instr.typeAssert .nilIface 20 71 true).run Try.prog w = .ok (.tuple #[.agg #[.string ⟨#[]⟩, .int .i64 0], .bool false]) w := fun w => by kernel_rfl
  have hne : ∀ w : World, (binOp BinOp.neq 20 .nilIface .nilIface).run Try.prog w = .ok (.bool false) w := fun w => by kernel_rfl
  go_wp2_with fail
  refine HQQ.out _ _ ?_
  rw [HR.out]
  exact ⟨rfl, rfl, (Below.refl _ _).alloc (Nat.le_refl _) _⟩

theorem PrSt.start {w0 w : World} {G V A F B : Nat} {nm : ByteArray} {ow : Option Nat} {dp : Int} (hl : Below w0.heap.size w0 w) (hB : w.heap[B]? = some (.cells #[.map (some G), .map (some V), .map (some A), .map (some F), .string nm, .map ow, .int .i64 dp] 76 (0, 0)))
    (hG : MapIs SK w G []) (hV : MapIs SK w V []) (hA : MapIs SK w A []) (hF : MapIs SK w F []) (h1 : w0.heap.size ≤ G) (h2 : G < V) (h3 : V < A) (h4 : A < F) (h5 : F < B) : PrSt w0 w w B G V A F ⟨[], [], [], [], nm, []⟩ :=
  ⟨Lw.refl hl, by omega, h1, by omega, by omega, by omega, ⟨_, _, _, hB⟩, ⟨[], hG, fun k => by simp [lookL]⟩, ⟨[], hV, fun k => by simp [lookL]⟩, ⟨[], hA, fun k => by simp [lookL]⟩, ⟨[], hF, fun k => by simp [lookL, lookF]⟩, by omega⟩
/-- The world in which program is called. -/
theorem check_start (w : World) (cs : Array Value) (W : World) (n : Nat) (hn : n = w.heap.size)
    (hW : W = ((((((((w.alloc (.cells cs 26)).alloc (.cells #[.string ⟨#[]⟩] 9)).alloc (.cells #[.int .i64 0] 29)).alloc (.map #[] 0)).alloc (.map #[] 0)).alloc (.map #[] 0)).alloc (.map #[] 0)).alloc (.cells #[.map (some (w.heap.size + 1 + 1 + 1)), .map (some (w.heap.size + 1 + 1 + 1 + 1)), .map (some (w.heap.size + 1 + 1 + 1 + 1 + 1)), .map (some (w.heap.size + 1 + 1 + 1 + 1 + 1 + 1)), .string ⟨#[]⟩, .map none, .int .i64 0] 76))) :
    ∃ w3, Below w.heap.size w w3 ∧ w3.heap.size = n + 3 ∧ w3.heap[n]? = some (.cells cs 26 (0, 0)) ∧ w3.heap[n + 1]? = some (.cells #[.string ⟨#[]⟩] 9 (0, 0)) ∧ w3.heap[n + 2]? = some (.cells #[.int .i64 0] 29 (0, 0)) ∧
      PrSt w3 W W (n + 7) (n + 3) (n + 4) (n + 5) (n + 6) ⟨[], [], [], [], ⟨#[]⟩, []⟩ := by
  subst hn
  have s1 : (w.alloc (.cells cs 26)).heap.size = w.heap.size + 1 := World.size_alloc ..
  have e1 : (w.alloc (.cells cs 26)).heap[w.heap.size]? = some (.cells cs 26 (0, 0)) := heap_alloc_new w _
  have l1 : Below w.heap.size w (w.alloc (.cells cs 26)) := (Below.refl _ _).alloc (Nat.le_refl _) _
  generalize (w.alloc (.cells cs 26)) = w1 at *
  have b2 : Below w1.heap.size w1 (w1.alloc (.cells #[.string ⟨#[]⟩] 9)) := (Below.refl _ _).alloc (Nat.le_refl _) _
  have s2 : (w1.alloc (.cells #[.string ⟨#[]⟩] 9)).heap.size = w.heap.size + 2 := by rw [World.size_alloc, s1]
  have e2 : (w1.alloc (.cells #[.string ⟨#[]⟩] 9)).heap[w1.heap.size]? = some (.cells #[.string ⟨#[]⟩] 9 (0, 0)) := heap_alloc_new w1 _
  rw [s1] at e2
  have e1' := (b2.block w.heap.size (by omega)).trans e1
  have l2 := l1.trans (b2.mono l1.size)
  clear e1
  generalize (w1.alloc (.cells #[.string ⟨#[]⟩] 9)) = w2 at *
  have b3 : Below w2.heap.size w2 (w2.alloc (.cells #[.int .i64 0] 29)) := (Below.refl _ _).alloc (Nat.le_refl _) _
  have s3 : (w2.alloc (.cells #[.int .i64 0] 29)).heap.size = w.heap.size + 3 := by rw [World.size_alloc, s2]
  have e3 : (w2.alloc (.cells #[.int .i64 0] 29)).heap[w2.heap.size]? = some (.cells #[.int .i64 0] 29 (0, 0)) := heap_alloc_new w2 _
  rw [s2] at e3
  have e1'' := (b3.block w.heap.size (by omega)).trans e1'
  have e2' := (b3.block (w.heap.size + 1) (by omega)).trans e2
  have l3 := l2.trans (b3.mono l2.size)
  clear e1' e2
  generalize (w2.alloc (.cells #[.int .i64 0] 29)) = w3 at *
  refine ⟨w3, l3, s3, e1'', e2', e3, ?_⟩
  have m1 := MapIs.made SK w3
  have m2 := MapIs.made SK (w3.alloc (.map #[] 0))
  have m3 := MapIs.made SK ((w3.alloc (.map #[] 0)).alloc (.map #[] 0))
  have m4 := MapIs.made SK (((w3.alloc (.map #[] 0)).alloc (.map #[] 0)).alloc (.map #[] 0))
  have x := heap_alloc_new ((((w3.alloc (.map #[] 0)).alloc (.map #[] 0)).alloc (.map #[] 0)).alloc (.map #[] 0)) (.cells #[.map (some (w.heap.size + 1 + 1 + 1)), .map (some (w.heap.size + 1 + 1 + 1 + 1)), .map (some (w.heap.size + 1 + 1 + 1 + 1 + 1)), .map (some (w.heap.size + 1 + 1 + 1 + 1 + 1 + 1)), .string ⟨#[]⟩, .map none, .int .i64 0] 76)
  simp only [World.size_alloc, s3] at m1 m2 m3 m4 x
  rw [hW]
  refine PrSt.start ?_ x (((((m1.alloc _).alloc _).alloc _)).alloc _) (((m2.alloc _).alloc _).alloc _) ((m3.alloc _).alloc _) (m4.alloc _) (by omega) (by omega) (by omega) (by omega) (by omega)
  exact (((((Below.refl w3.heap.size w3).alloc (by simp) _).alloc (by simp) _).alloc (by simp; omega) _).alloc (by simp; omega) _).alloc (by simp; omega) _
set_option maxHeartbeats 8000000 in
theorem check_any {w : World} {vs rs fs : Value} {p : Pr} (hp : PrAt w vs rs fs p) (hfit : Fits p) :
    Calls Try.prog 13 #[.agg #[vs, rs, fs]] w fun e w' => e = .returned (.tuple #[.string (check p).1, .int .i64 (check p).2]) ∧ Below w.heap.size w w' := by
  have hmf : ∀ (fn : Fn) (first cap : Array Value) (w : World), (Instr.makeFunc fn first cap).run Try.prog w = .ok (.func fn first cap) w := fun _ _ _ _ => rfl
  have hmm := @run_makeMap Try.prog
  have HP := Keep.mk hp
  have HF := Keep.mk hfit
  obtain ⟨h1, h2, h3⟩ := hp
  obtain ⟨a1, c1, rfl, k1, k2, _⟩ := id h1
  obtain ⟨a2, c2, rfl, k3, k4⟩ := h2.len
  obtain ⟨a3, c3, rfl, k5, k6⟩ := h3.len
  unfold maxLen at k2 k4 k6
  clear h1 h2 h3 hfit
  go_enter_defers Try.func13, Try.ntmps13
  go_upto_region 3 with (fail)
  obtain ⟨W, hW⟩ : ∃ W, W = ((((((((w.alloc (.cells #[.slice a1 p.vars.length c1, .slice a2 p.arrays.length c2, .slice a3 p.funcs.length c3] 26)).alloc (.cells #[.string ⟨#[]⟩] 9)).alloc (.cells #[.int .i64 0] 29)).alloc (.map #[] 0)).alloc (.map #[] 0)).alloc (.map #[] 0)).alloc (.map #[] 0)).alloc (.cells #[.map (some (w.heap.size + 1 + 1 + 1)), .map (some (w.heap.size + 1 + 1 + 1 + 1)), .map (some (w.heap.size + 1 + 1 + 1 + 1 + 1)), .map (some (w.heap.size + 1 + 1 + 1 + 1 + 1 + 1)), .string ⟨#[]⟩, .map none, .int .i64 0] 76)) := ⟨_, rfl⟩
  obtain ⟨w3, hl3, hs3, e0, e1, e2, hst⟩ := check_start w _ W w.heap.size rfl hW
  rw [← hW]
  have HL3 := Keep.mk hl3
  have HS3 := Keep.mk hs3
  have HE1 := Keep.mk e1
  have HE2 := Keep.mk e2
  have HST := Keep.mk hst
  have hx := (hst.low.1.block w.heap.size (by omega)).trans e0
  have HX := Keep.mk hx
  clear hW hl3 hs3 e0 e1 e2 hst hx
  obtain ⟨n, hn⟩ : ∃ n, n = w.heap.size := ⟨_, rfl⟩
  have HN := Keep.mk hn
  rw [← hn] at HS3 HE1 HE2 HST HX ⊢
  clear hn
  have x0 : W.cell? ⟨n, 0, none⟩ = some (.slice a1 p.vars.length c1) := by simp [World.cell?, HX.out]
  have x1 : W.cell? ⟨n, 1, none⟩ = some (.slice a2 p.arrays.length c2) := by simp [World.cell?, HX.out]
  have x2 : W.cell? ⟨n, 2, none⟩ = some (.slice a3 p.funcs.length c3) := by simp [World.cell?, HX.out]
  have xl : n < W.heap.size := (Array.getElem?_eq_some_iff.1 HX.out).1
  have HPR := Keep.mk (program_any HST.out (p := p) ⟨HP.out.1.below HL3.out (Nat.le_refl _), HP.out.2.1.below HL3.out (Nat.le_refl _), HP.out.2.2.below HL3.out (Nat.le_refl _)⟩ HF.out)
  simp only [Nat.add_assoc, Nat.reduceAdd] at HPR ⊢
  have HCK : Keep (check p = match programC p with | .bad v => v | .ok _ => (⟨#[]⟩, 0)) := ⟨rfl⟩
  clear HST HX
  go_wp2_with fail
  refine HPR.out.mono ?_
  rintro e w4 hE
  clear x0 x1 x2 xl HPR
  obtain ⟨r, hr⟩ : ∃ r, programC p = r := ⟨_, rfl⟩
  rw [hr] at hE HCK
  clear hr
  cases r with
  | bad v =>
    obtain ⟨hB, hl⟩ := hE
    obtain rfl : e = _ := hB
    have p1 := (hl.block (n + 1) (by have := HS3.out; omega)).trans HE1.out
    have p2 := (hl.block (n + 2) (by have := HS3.out; omega)).trans HE2.out
    refine leaves_cons (f := 29) (args := #[.pointer (some ⟨n + 1, 0, none⟩), .pointer (some ⟨n + 2, 0, none⟩)]) (by simp) (by simp [go_sem]) ?_
    refine (catch_viol (n + 1) (n + 2) _ _ v w4 p1 p2 (by omega)).mono ?_
    rintro e u' w5 ⟨rfl, rfl, g1, g2, gk, gs, go, gt, gp⟩
    have c1' : w5.cell? ⟨n + 1, 0, none⟩ = some (.string v.1) := by simp [World.cell?, g1]
    have c2' : w5.cell? ⟨n + 2, 0, none⟩ = some (.int .i64 v.2) := by simp [World.cell?, g2]
    have HBF : Keep (Below w.heap.size w w5) := ⟨by
      have h3 := HL3.out.trans (hl.mono HL3.out.size)
      have hn := HN.out
      have hz := hl.size
      have hz3 := HS3.out
      exact ⟨go.trans h3.os, gt.trans h3.tape, gp.trans h3.output, Nat.le_trans h3.size gs, fun k hk => (gk k (by omega) (by omega) (by omega)).trans (h3.block k hk)⟩⟩
    have HCV : Keep (check p = v) := ⟨HCK.out⟩
    clear g1 g2 gk gs go gt gp p1 p2 hl HCK
    have hc1 : check p = v := HCV.out
    rw [hc1]
    simp [Leaves, settle, results, Try.results13, go_sem, c1', c2']
    exact HBF.out
  | ok _ =>
    obtain ⟨⟨v4, rfl⟩, hl⟩ := hE
    have p1 := (hl.block (n + 1) (by have := HS3.out; omega)).trans HE1.out
    have p2 := (hl.block (n + 2) (by have := HS3.out; omega)).trans HE2.out
    have y1 : w4.cell? ⟨n + 1, 0, none⟩ = some (.string ⟨#[]⟩) := by simp [World.cell?, p1]
    have y2 : w4.cell? ⟨n + 2, 0, none⟩ = some (.int .i64 0) := by simp [World.cell?, p2]
    have f1 : w4.frozen? ⟨n + 1, 0, none⟩ = false := by simp [World.frozen?, p1]
    have f2 : w4.frozen? ⟨n + 2, 0, none⟩ = false := by simp [World.frozen?, p2]
    have yl1 : n + 1 < w4.heap.size := (Array.getElem?_eq_some_iff.1 p1).1
    have yl2 : n + 2 < w4.heap.size := (Array.getElem?_eq_some_iff.1 p2).1
    have HL := Keep.mk hl
    have HP1 := Keep.mk p1
    have HP2 := Keep.mk p2
    clear hl p1 p2
    go_wp2_with fail
    have g1 := heap_setCell_same w4 (n + 1) 0 _ _ (.string ⟨#[]⟩) HP1.out
    have g2 := (Below.heap_setCell w4 ⟨n + 1, 0, none⟩ (.string ⟨#[]⟩) (n + 2) (by show n + 2 ≠ n + 1; omega)).trans HP2.out
    have g3 := heap_setCell_same _ (n + 2) 0 _ _ (.int .i64 0) g2
    have g4 := (Below.heap_setCell (w4.setCell ⟨n + 1, 0, none⟩ (.string ⟨#[]⟩)) ⟨n + 2, 0, none⟩ (.int .i64 0) (n + 1) (by show n + 1 ≠ n + 2; omega)).trans g1
    have hb5 : Below w.heap.size w ((w4.setCell ⟨n + 1, 0, none⟩ (.string ⟨#[]⟩)).setCell ⟨n + 2, 0, none⟩ (.int .i64 0)) := by
      have h3 := HL3.out.trans (HL.out.mono HL3.out.size)
      have hn := HN.out
      exact (h3.grown (grown_setCell w4 ⟨n + 1, 0, none⟩ (.string ⟨#[]⟩)) h3.size (fun k hk => by cases hk; show w.heap.size ≤ n + 1; omega)).grown (grown_setCell (w4.setCell ⟨n + 1, 0, none⟩ (.string ⟨#[]⟩)) ⟨n + 2, 0, none⟩ (.int .i64 0)) (by have := h3.size; simp [World.setCell]; omega) (fun k hk => by cases hk; show w.heap.size ≤ n + 2; omega)
    have HB5 := Keep.mk hb5
    clear g1 g2 hb5 y1 y2 f1 f2 yl1 yl2 HP1 HP2 HL
    generalize ((w4.setCell ⟨n + 1, 0, none⟩ (.string ⟨#[]⟩)).setCell ⟨n + 2, 0, none⟩ (.int .i64 0)) = w5 at *
    refine leaves_cons (f := 29) (args := #[.pointer (some ⟨n + 1, 0, none⟩), .pointer (some ⟨n + 2, 0, none⟩)]) (by simp) (by simp [go_sem]) ?_
    refine (catch_idle (n + 1) (n + 2) w5).mono ?_
    rintro e u' w6 ⟨rfl, rfl, hb6⟩
    have i1 := (hb6.block (n + 1) (Array.getElem?_eq_some_iff.1 g4).1).trans g4
    have i2 := (hb6.block (n + 2) (Array.getElem?_eq_some_iff.1 g3).1).trans g3
    have c1' : w6.cell? ⟨n + 1, 0, none⟩ = some (.string ⟨#[]⟩) := by simp [World.cell?, i1]
    have c2' : w6.cell? ⟨n + 2, 0, none⟩ = some (.int .i64 0) := by simp [World.cell?, i2]
    have HBF := Keep.mk (HB5.out.trans (hb6.mono HB5.out.size))
    have hc1 : check p = (⟨#[]⟩, 0) := HCK.out
    clear g3 g4 hb6 i1 i2 HCK
    rw [hc1]
    simp [Leaves, settle, results, Try.results13, go_sem, c1', c2']
    exact HBF.out
end Go.Proofs.Ytgimdbflpdmlmaa
