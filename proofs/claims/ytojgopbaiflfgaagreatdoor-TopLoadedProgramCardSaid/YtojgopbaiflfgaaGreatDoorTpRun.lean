/- machine.run: recover, the loop. Conditions: bounds on the steps and the output. -/
import Derived.Test.YtojgopbaiflfgaaGreatDoorTpExecF
import Derived.Recover
import Derived.Defers
namespace Go.Proofs.YtojgopbaiflfgaaGreatDoor
set_option maxRecDepth 100000
open Go.RowKit Go.Shelf Go.Proofs.YtojgopbaiflfgaaGreatDoor.B2

set_option maxHeartbeats 4000000 in
theorem catch_trap (E : Nat) (e0 : Int) (w : World) (hE : w.heap[E]? = some (.cells #[.int .i64 e0] 26 (0, 0))) :
    CallsD Tryz.prog 48 #[.pointer (some ⟨E, 0, none⟩)] (.panicking [{ v := noTr, recovered := false }]) w fun e u' w' =>
      e = .returned (.tuple #[]) ∧ u' = .panicking [{ v := noTr, recovered := true }] ∧ w'.heap[E]? = some (.cells #[.int .i64 12] 26 (0, 0)) ∧ w.grownBy w' (some E) := by
  refine callsD_of_wpS Tryz.func48 rfl fun c₀ cs hu => ?_
  apply wpS_seq
  apply wpS_region
  simp [wpOpsS, go_sem, recoverD, hu, Tryz.ntmps48, Exit.thenS]
  obtain ⟨R, hR⟩ : ∃ R : Ending → FrameMode → World → Prop, R = fun e u' w' => e = Ending.returned (Value.tuple #[]) ∧ u' = FrameMode.panicking [{ v := noTr, recovered := true }] ∧ w'.heap[E]? = some (Obj.cells #[Value.int IntKind.i64 12] 26 (0, 0)) ∧ w.grownBy w' (some E) := ⟨_, rfl⟩
  rw [← hR]
  have HR := Keep.mk hR
  have hb : ∀ (tm : Array Value) (w' : World), R (.returned (.tuple #[])) (.panicking [{ v := noTr, recovered := true }]) w' → bodyPostS Tryz.prog Tryz.f48 c₀ cs R Exit.normal { tmps := tm, defers := [] } ({ fn := c₀.fn, tmps := c₀.tmps, todo := c₀.todo, defers := c₀.defers, mode := FrameMode.panicking [{ v := noTr, recovered := true }], kind := c₀.kind, roundOf := c₀.roundOf } :: cs) w' := fun tm w' h => by
    simp [bodyPostS, results, Tryz.results48, go_sem]
    exact h
  have HBP := Keep.mk hb
  clear hR hb
  refine wpS_of_wp ?_
  change Code.wp _ _ _ { tmps := #[.pointer (some ⟨E, 0, none⟩), noTr, undef, undef, noTr, undef, undef, undef, undef, undef, undef, undef, undef, undef], defers := [] } w
  generalize hbp : (fun e a' w' => bodyPostS Tryz.prog Tryz.f48 c₀ cs R e a' ({ fn := c₀.fn, tmps := c₀.tmps, todo := c₀.todo, defers := c₀.defers, mode := FrameMode.panicking [{ v := noTr, recovered := true }], kind := c₀.kind, roundOf := c₀.roundOf } :: cs) w') = QQ at *
  have HQQ : Keep (∀ (tm : Array Value) (w' : World), R (.returned (.tuple #[])) (.panicking [{ v := noTr, recovered := true }]) w' → QQ Exit.normal { tmps := tm, defers := [] } w') := ⟨fun tm w' h => by rw [← hbp]; exact HBP.out tm w' h⟩
  clear hbp HBP
  have hta : ∀ w : World, (Instr.typeAssert (.iface 102 (.agg #[])) 20 102 true).run Tryz.prog w = .ok (.tuple #[.agg #[], .bool true]) w := fun w => by kernel_rfl
  unfold noTr at *
  have HE := Keep.mk hE
  clear hE
  go_upto_region 3 with (fail)
  have hB : Below w.heap.size w (w.alloc (.cells #[] 102)) := (Below.refl _ _).alloc (Nat.le_refl _) _
  have hE1 := (hB.block E (Array.getElem?_eq_some_iff.1 HE.out).1).trans HE.out
  have HB := Keep.mk hB
  have HE1 := Keep.mk hE1
  clear hB hE1
  generalize (w.alloc (.cells #[] 102)) = w1 at *
  have p0 : w1.cell? ⟨E, 0, none⟩ = some (.int .i64 e0) := by simp [World.cell?, HE1.out]
  have p1 : w1.frozen? ⟨E, 0, none⟩ = false := by simp [World.frozen?, HE1.out]
  have pl : E < w1.heap.size := (Array.getElem?_eq_some_iff.1 HE1.out).1
  go_wp2_with fail
  refine HQQ.out _ _ ?_
  rw [HR.out]
  have g1 := heap_setCell_same w1 E 0 _ _ (.int .i64 12) HE1.out
  have hg := setCell_grown w1 ⟨E, 0, none⟩ (.int .i64 12)
  exact ⟨rfl, rfl, g1, ⟨hg.os.trans HB.out.os, hg.tape.trans HB.out.tape, hg.output.trans HB.out.output, Nat.le_trans HB.out.size hg.size, fun k hk hne => (hg.block k (Nat.lt_of_lt_of_le hk HB.out.size) hne).trans (HB.out.block k hk)⟩⟩
set_option maxHeartbeats 4000000 in
theorem catch_calm (E : Nat) (w : World) :
    CallsD Tryz.prog 48 #[.pointer (some ⟨E, 0, none⟩)] .returning w fun e u' w' => e = .returned (.tuple #[]) ∧ u' = .returning ∧ Below w.heap.size w w' := by
  refine callsD_of_wpS Tryz.func48 rfl fun c₀ cs hu => ?_
  apply wpS_seq
  apply wpS_region
  simp [wpOpsS, go_sem, recoverD, hu, Tryz.ntmps48, Exit.thenS]
  obtain ⟨R, hR⟩ : ∃ R : Ending → FrameMode → World → Prop, R = fun e u' w' => e = Ending.returned (Value.tuple #[]) ∧ u' = FrameMode.returning ∧ Below w.heap.size w w' := ⟨_, rfl⟩
  rw [← hR]
  have HR := Keep.mk hR
  have hb : ∀ (tm : Array Value) (w' : World), R (.returned (.tuple #[])) .returning w' → bodyPostS Tryz.prog Tryz.f48 c₀ cs R Exit.normal { tmps := tm, defers := [] } (c₀ :: cs) w' := fun tm w' h => by
    cases c₀
    simp only at hu
    subst hu
    simp [bodyPostS, results, Tryz.results48, go_sem]
    exact h
  have HBP := Keep.mk hb
  clear hR hb
  refine wpS_of_wp ?_
  change Code.wp _ _ _ { tmps := #[.pointer (some ⟨E, 0, none⟩), .nilIface, undef, undef, .nilIface, undef, undef, undef, undef, undef, undef, undef, undef, undef], defers := [] } w
  generalize hbp : (fun e a' w' => bodyPostS Tryz.prog Tryz.f48 c₀ cs R e a' (c₀ :: cs) w') = QQ at *
  have HQQ : Keep (∀ (tm : Array Value) (w' : World), R (.returned (.tuple #[])) .returning w' → QQ Exit.normal { tmps := tm, defers := [] } w') := ⟨fun tm w' h => by rw [← hbp]; exact HBP.out tm w' h⟩
  clear hbp HBP
  have hta : ∀ w : World, (Instr.typeAssert .nilIface 20 102 true).run Tryz.prog w = .ok (.tuple #[.agg #[], .bool false]) w := fun w => by kernel_rfl
  have hne : ∀ w : World, (binOp BinOp.neq 20 .nilIface .nilIface).run Tryz.prog w = .ok (.bool false) w := fun w => by kernel_rfl
  go_wp2_with fail
  refine HQQ.out _ _ ?_
  rw [HR.out]
  exact ⟨rfl, rfl, (Below.refl _ _).alloc (Nat.le_refl _) _⟩
theorem pushS_out {s s2 : St} {v : W} (h : pushS s v = some s2) : s2.out = s.out ∧ s2.data ≠ [] := by
  unfold pushS at h
  by_cases hl : s.data.length < 256
  · rw [if_pos hl] at h
    cases h
    exact ⟨rfl, by simp⟩
  · rw [if_neg hl] at h
    cases h
theorem execC_dig {s s2 : St} {c : W} (h : execC s c = some s2) (hc : isDig c = true) : s2.data ≠ [] := by
  unfold execC at h
  rw [if_pos hc] at h
  by_cases h2 : s.digit = true
  · rw [if_pos h2] at h
    cases hd : s.data with
    | nil => rw [hd] at h; cases h
    | cons t d => rw [hd] at h; cases h; simp
  · rw [if_neg h2] at h
    exact (pushS_out h).2
theorem execC_out {s s2 : St} {c : W} (h : execC s c = some s2) : s2.out.length ≤ s.out.length + 1 := by
  unfold execC at h
  by_cases h1 : isDig c = true
  · rw [if_pos h1] at h
    by_cases h2 : s.digit = true
    · rw [if_pos h2] at h
      cases hd : s.data with
      | nil => rw [hd] at h; cases h
      | cons t d => rw [hd] at h; cases h; exact Nat.le_succ _
    · rw [if_neg h2] at h
      rw [(pushS_out h).1]
      exact Nat.le_succ _
  rw [if_neg h1] at h
  by_cases h2 : c = 32#32 ∨ c = 10#32
  · rw [if_pos h2] at h; cases h; exact Nat.le_succ _
  rw [if_neg h2] at h
  by_cases h3 : c = 64#32
  · rw [if_pos h3] at h
    cases hd : s.data with
    | nil => rw [hd] at h; cases h
    | cons a d =>
      rw [hd] at h
      by_cases ha : a.toNat < 262144
      · simp only [if_pos ha] at h; cases h; exact Nat.le_succ _
      · simp only [if_neg ha] at h; cases h
  rw [if_neg h3] at h
  by_cases h4 : c = 33#32
  · rw [if_pos h4] at h
    cases hd : s.data with
    | nil => rw [hd] at h; cases h
    | cons a d =>
      rw [hd] at h
      by_cases ha : a.toNat < 262144
      · simp only [if_pos ha] at h
        cases d with
        | nil => cases h
        | cons v d' => cases h; exact Nat.le_succ _
      · simp only [if_neg ha] at h; cases h
  rw [if_neg h4] at h
  by_cases h5 : c = 63#32
  · rw [if_pos h5] at h
    cases hd : s.data with
    | nil => rw [hd] at h; cases h
    | cons a d =>
      rw [hd] at h
      cases d with
      | nil => cases h
      | cons v d' => cases h; exact Nat.le_succ _
  rw [if_neg h5] at h
  by_cases h6 : c = 58#32
  · rw [if_pos h6] at h
    cases hd : s.data with
    | nil => rw [hd] at h; cases h
    | cons a d =>
      rw [hd] at h
      by_cases ha : s.calls.length < 64
      · simp only [if_pos ha] at h; cases h; exact Nat.le_succ _
      · simp only [if_neg ha] at h; cases h
  rw [if_neg h6] at h
  by_cases h7 : c = 59#32
  · rw [if_pos h7] at h
    cases hd : s.calls with
    | nil => rw [hd] at h; cases h
    | cons a d => rw [hd] at h; cases h; exact Nat.le_succ _
  rw [if_neg h7] at h
  by_cases h8 : c = 44#32
  · rw [if_pos h8] at h
    rw [(pushS_out h).1]
    exact Nat.le_succ _
  rw [if_neg h8] at h
  by_cases h9 : c = 46#32
  · rw [if_pos h9] at h
    cases hd : s.data with
    | nil => rw [hd] at h; cases h
    | cons a d => rw [hd] at h; cases h; simp
  rw [if_neg h9] at h
  by_cases h10 : c = 36#32
  · rw [if_pos h10] at h; cases h; exact Nat.le_succ _
  rw [if_neg h10] at h
  cases hd : s.data with
  | nil => rw [hd] at h; cases h
  | cons b d =>
    rw [hd] at h
    cases d with
    | nil => cases h
    | cons a d' =>
      cases hb : binC c a b with
      | none => simp only [hb] at h; cases h
      | some r => simp only [hb] at h; cases h; exact Nat.le_succ _
def stepsOf (B : Nat) (w : World) : Nat := match w.cell? ⟨B, 7, none⟩ with | some (.int _ k) => k.toNat | _ => 0
section
variable {w : World} {base B M G k : Nat} {s : St}
theorem stepsOf_eq (h : MIn w base B M G s k) : stepsOf B w = k := by
  obtain ⟨dv, cv, iv, ov, h⟩ := h
  have : w.cell? ⟨B, 7, none⟩ = some (.int .i64 (k : Int)) := h.cell 7
  simp [stepsOf, this]
theorem MIn.below (h : MIn w base B M G s k) {w' : World} (hb : Below w.heap.size w w') : MIn w' base B M G s k := by
  obtain ⟨dv, cv, iv, ov, h⟩ := h
  exact ⟨dv, cv, iv, ov, h.below hb⟩
theorem MIn.le_base (h : MIn w base B M G s k) : base ≤ w.heap.size := by
  obtain ⟨dv, cv, iv, ov, h⟩ := h
  have := h.bB; have := h.lt
  omega
theorem MIn.field (h : MIn w base B M G s k) : w.cell? ⟨B, 1, none⟩ = some (.int .u32 (W32 s.pc)) ∧ w.cell? ⟨B, 7, none⟩ = some (.int .i64 (k : Int)) ∧ w.cell? ⟨B, 8, none⟩ = some (.bool s.stop) ∧ w.cell? ⟨B, 6, none⟩ = some (.bool s.digit) ∧ ∀ i, w.frozen? ⟨B, i, none⟩ = false := by
  obtain ⟨dv, cv, iv, ov, h⟩ := h
  exact ⟨h.cell 1, h.cell 7, h.cell 8, h.cell 6, h.frozen⟩
theorem MIn.setSteps (h : MIn w base B M G s k) (k' : Nat) : MIn (w.setCell ⟨B, 7, none⟩ (.int .i64 (k' : Int))) base B M G s k' ∧ Mw base w (w.setCell ⟨B, 7, none⟩ (.int .i64 (k' : Int))) := by
  obtain ⟨dv, cv, iv, ov, h⟩ := h
  exact ⟨⟨_, _, _, _, h.setB (s' := s) (k' := k') (dv' := dv) (cv' := cv) (iv' := iv) (ov' := ov) 7 _ rfl rfl h.data h.calls h.inp h.inpb h.out h.dM h.cM h.dc h.d256 h.c64 h.o20⟩, h.mw 7 _⟩
theorem MIn.setPc (h : MIn w base B M G s k) (p : W) : MIn (w.setCell ⟨B, 1, none⟩ (.int .u32 (W32 p))) base B M G { s with pc := p } k ∧ Mw base w (w.setCell ⟨B, 1, none⟩ (.int .u32 (W32 p))) := by
  obtain ⟨dv, cv, iv, ov, h⟩ := h
  exact ⟨⟨_, _, _, _, h.setB (s' := { s with pc := p }) (k' := k) (dv' := dv) (cv' := cv) (iv' := iv) (ov' := ov) 1 _ rfl rfl h.data h.calls h.inp h.inpb h.out h.dM h.cM h.dc h.d256 h.c64 h.o20⟩, h.mw 1 _⟩
theorem MIn.setDigit (h : MIn w base B M G s k) (b : Bool) : MIn (w.setCell ⟨B, 6, none⟩ (.bool b)) base B M G { s with digit := b } k ∧ Mw base w (w.setCell ⟨B, 6, none⟩ (.bool b)) := by
  obtain ⟨dv, cv, iv, ov, h⟩ := h
  exact ⟨⟨_, _, _, _, h.setB (s' := { s with digit := b }) (k' := k) (dv' := dv) (cv' := cv) (iv' := iv) (ov' := ov) 6 _ rfl rfl h.data h.calls h.inp h.inpb h.out h.dM h.cM h.dc h.d256 h.c64 h.o20⟩, h.mw 6 _⟩
theorem MIn.away (h : MIn w base B M G s k) {w' : World} {E : Nat} {cs : Array Value} {fz : Nat × Nat} (hE : w.heap[E]? = some (.cells cs 26 fz)) (hb : base ≤ E) (hg : w.grownBy w' (some E)) : MIn w' base B M G s k := by
  obtain ⟨dv, cv, iv, ov, h⟩ := h
  have ne : ∀ {e : TypeId} {n : Nat} {v : Value} {xs : List Value}, w.ownsRow base e 1 v n xs → e ≠ 26 → ∀ r, some E = some r → v.ownBlock ≠ some r := fun hr he r e => by
    simp only [Option.some.injEq] at e
    subst e
    exact row_ty hr hE he
  refine ⟨dv, cv, iv, ov, (hg.block B h.lt (fun e => ?_)).trans h.box, h.mem.block (hg.block M h.mem.lt (fun e => ?_)), row_kept h.data hg (ne h.data (by decide)), row_kept h.calls hg (ne h.calls (by decide)), slc_kept h.inp hg (fun r e hr => ?_), h.inpb, row_kept h.out hg (ne h.out (by decide)), map_kept h.bins hE hg, h.bB, h.bM, h.dM, h.cM, h.dc, h.d256, h.c64, h.o20⟩
  · simp only [Option.some.injEq] at e
    rw [← e, h.box] at hE
    simp at hE
  · simp only [Option.some.injEq] at e
    obtain ⟨cur, h1, _⟩ := h.mem
    rw [← e, h1] at hE
    simp at hE
  · simp only [Option.some.injEq] at e
    subst e
    have := h.inpb _ hr
    omega
theorem Mw.away {w' w'' : World} {E : Nat} (h : Mw base w w') (hE : w.heap.size ≤ E) (hg : w'.grownBy w'' (some E)) : Mw base w w'' :=
  ⟨hg.os.trans h.os, hg.tape.trans h.tape, hg.output.trans h.output, Nat.le_trans h.size hg.size, fun k o hk hn => by
    have h1 := h.block k o hk hn
    have h2 := (Array.getElem?_eq_some_iff.1 hk).1
    exact (hg.block k (Array.getElem?_eq_some_iff.1 h1).1 (fun e => by simp only [Option.some.injEq] at e; omega)).trans h1⟩
theorem Mw.errno {w' : World} {E : Nat} {cs : Array Value} {fz : Nat × Nat} (h : Mw base w w') (hE : w.heap[E]? = some (.cells cs 26 fz)) : w'.heap[E]? = some (.cells cs 26 fz) :=
  h.block E _ hE (.inr fun ⟨c, t, f, e, ht⟩ => by
    simp only [Obj.cells.injEq] at e
    obtain ⟨-, rfl, -⟩ := e
    rcases ht with ht | ht | ht <;> exact absurd ht (by decide))
end
/-- How a run ends. -/
def RunEnd (w : World) (base B M G : Nat) (r : List UInt8 × Nat × Nat) (e : Ending) (w' : World) : Prop :=
  e = .returned (.int .i64 (r.2.1 : Int)) ∧ (∃ s', s'.out = r.1 ∧ MIn w' base B M G s' r.2.2) ∧ Mw base w w'
set_option maxHeartbeats 8000000 in
theorem run_any {w : World} {base B M G : Nat} {s : St} (h : MIn w base B M G s 0) (f : Nat) (hf : f ≤ 100000000) (hd : s.digit = true → s.data ≠ []) (ho : s.out = []) :
    Calls Tryz.prog 25 #[.pointer (some ⟨B, 0, none⟩), .int .i64 f] w (RunEnd w base B M G (runC f s 0)) := by
  have hmf : ∀ (fn : Fn) (first cap : Array Value) (w : World), (Instr.makeFunc fn first cap).run Tryz.prog w = .ok (.func fn first cap) w := fun _ _ _ _ => rfl
  have HE0 := heap_alloc_new w (.cells #[.int .i64 0] 26)
  have HM0 := Keep.mk (h.below ((Below.refl _ _).alloc (Nat.le_refl _) (.cells #[.int .i64 0] 26)))
  have HW0 : Keep (Mw base w (w.alloc (.cells #[.int .i64 0] 26))) := ⟨Mw.of_below ((Below.refl _ _).alloc (Nat.le_refl _) _)⟩
  have HH := Keep.mk h
  clear h
  go_enter_defers Tryz.func25, Tryz.ntmps25
  go_wp2_with fail
  obtain ⟨E, hE⟩ : ∃ E, E = w.heap.size := ⟨_, rfl⟩
  have HEE : Keep (w.heap.size ≤ E) := ⟨by omega⟩
  have HEB : Keep (base ≤ E) := ⟨by have := HH.out.le_base; omega⟩
  rw [← hE] at HE0 ⊢
  have HE := Keep.mk HE0
  clear hE HE0 hmf
  generalize (w.alloc (.cells #[.int .i64 0] 26)) = w1 at *
  go_loopw [5] (fun _ wr => ∃ (f' k' : Nat) (s' : St), f' + k' = f ∧ Keep (MIn wr base B M G s' k') ∧ Keep (runC f' s' k' = runC f s 0) ∧ Keep ((s'.digit = true → s'.data ≠ []) ∧ s'.out.length ≤ k') ∧ Keep (wr.heap[E]? = some (.cells #[.int .i64 0] 26 (0, 0))) ∧ Keep (Mw base w wr)) (fun _ wr => f - stepsOf B wr)
  case atStart => exact ⟨f, 0, s, rfl, HM0, ⟨rfl⟩, ⟨hd, by rw [ho]; exact Nat.le_refl _⟩, HE, HW0⟩
  case round =>
    obtain ⟨f', k', s', hfk, HM, HR, HI, HEr, HW⟩ := hrel
    obtain ⟨c1, c7, c8, c6, fz⟩ := HM.out.field
    have fz7 := fz 7
    have hBl := HM.out.lt
    have HFZ := Keep.mk fz
    have HFK := Keep.mk hfk
    have HSO : Keep (stepsOf B wr = k') := ⟨stepsOf_eq HM.out⟩
    clear fz
    cases f' with
    | zero =>
      have k0 : ¬ (k' : Int) < f := by omega
      have HRR : Keep (runC f s 0 = (s'.out, 13, k')) := ⟨by rw [← HR.out]; rfl⟩
      have y0 : wr.cell? ⟨E, 0, none⟩ = some (.int .i64 0) := by simp [World.cell?, HEr.out]
      have y1 : wr.frozen? ⟨E, 0, none⟩ = false := by simp [World.frozen?, HEr.out]
      have yl : E < wr.heap.size := (Array.getElem?_eq_some_iff.1 HEr.out).1
      clear hfk
      go_wp2_with fail
      have g1 := heap_setCell_same wr E 0 _ _ (.int .i64 13) HEr.out
      have hg1 := setCell_grown wr ⟨E, 0, none⟩ (.int .i64 13)
      have hm1 := MIn.away HM.out HEr.out HEB.out hg1
      have hw1 := Mw.away HW.out HEE.out hg1
      refine leaves_cons (f := 48) (args := #[.pointer (some ⟨E, 0, none⟩)]) (by simp) (by simp [go_sem]) ?_
      refine (catch_calm E _).mono ?_
      rintro e u' w6 ⟨rfl, rfl, hb6⟩
      have i1 := (hb6.block E (Array.getElem?_eq_some_iff.1 g1).1).trans g1
      have c1' : w6.cell? ⟨E, 0, none⟩ = some (.int .i64 13) := by simp [World.cell?, i1]
      have hmF := hm1.below hb6
      have hwF := hw1.trans (Mw.of_below (base := base) hb6)
      rw [HRR.out]
      simp [Leaves, settle, results, Tryz.results25, go_sem, c1', RunEnd]
      exact ⟨⟨_, rfl, hmF⟩, hwF⟩
    | succ n =>
      have k0 : (k' : Int) < f := by omega
      have hkb : k' < 100000000 := by omega
      have HS1 := Keep.mk (HM.out.setSteps (k' + 1))
      have E1 : Keep (((k' : Int) + 1) = ((k' + 1 : Nat) : Int)) := ⟨by omega⟩
      clear hfk
      by_cases hpc : s'.pc.toNat < 262144
      · have p1 : decide (W32 s'.pc < 262144) = true := by unfold W32; rw [decide_eq_true_iff]; omega
        go_upto_region 4 with (fail)
        rw [E1.out]
        have HE2 : Keep ((wr.setCell ⟨B, 7, none⟩ (.int .i64 ((k' + 1 : Nat) : Int))).heap[E]? = some (.cells #[.int .i64 0] 26 (0, 0))) := ⟨Mw.errno HS1.out.2 HEr.out⟩
        have HW2 := Keep.mk (HW.out.trans HS1.out.2)
        have HM2 := Keep.mk HS1.out.1
        clear c1 c7 c8 c6 fz7 hBl HFZ HM HS1 HEr HW
        generalize (wr.setCell ⟨B, 7, none⟩ (.int .i64 ((k' + 1 : Nat) : Int))) = w2 at *
        obtain ⟨c1, c7, c8, c6, fz⟩ := HM2.out.field
        have hBl := HM2.out.lt
        have fz1 := fz 1
        clear fz
        go_wp2_with fail
        refine (check_ok _).mono ?_
        rintro _ w3 ⟨⟨u, rfl⟩, rfl⟩
        have hm0 := HM2.out.mem0
        have hmw := HM2.out.word hpc
        have hml := HM2.out.mlt
        have pa0 : (0 : Int) ≤ W32 s'.pc := W32_lo _
        have pa1 : W32 s'.pc < 262144 := by unfold W32; omega
        have pa2 : (W32 s'.pc).toNat = s'.pc.toNat := rfl
        clear p1
        go_upto_region 5 with (fail)
        go_quiet (fail)
        have HM3 : Keep (MIn (w3.drewN nq) base B M G s' (k' + 1)) := ⟨HM2.out.below (below_drewN (Below.refl _ _) nq)⟩
        have HW3 : Keep (Mw base w (w3.drewN nq)) := ⟨HW2.out.trans (Mw.of_below (below_drewN (Below.refl _ _) nq))⟩
        have HE3 : Keep ((w3.drewN nq).heap[E]? = some (.cells #[.int .i64 0] 26 (0, 0))) := ⟨HE2.out⟩
        clear c1 c7 c8 c6 hBl fz1 hm0 hmw hml pa0 pa1 pa2 HM2 HW2 HE2
        generalize w3.drewN nq = w4 at *
        have HX := Keep.mk (HM3.out.setPc (s'.pc + 1#32))
        obtain ⟨c1, c7, c8, c6, fz⟩ := HM3.out.field
        have hBl := HM3.out.lt
        have fz1 := fz 1
        have p2 : IntKind.u32.wrap (W32 s'.pc + 1) = W32 (s'.pc + 1#32) := add_lit _ 1
        clear fz
        go_upto_region 7 with (fail)
        have HE4 : Keep ((w4.setCell ⟨B, 1, none⟩ (.int .u32 (W32 (s'.pc + 1#32)))).heap[E]? = some (.cells #[.int .i64 0] 26 (0, 0))) := ⟨Mw.errno HX.out.2 HE3.out⟩
        have HW4 := Keep.mk (HW3.out.trans HX.out.2)
        have HM4 := Keep.mk HX.out.1
        clear c1 c7 c8 c6 hBl fz1 p2 HX HM3 HW3 HE3
        generalize w4.setCell ⟨B, 1, none⟩ (.int .u32 (W32 (s'.pc + 1#32))) = w5 at *
        have HRC : Keep (runC f s 0 = match execC { s' with pc := s'.pc + 1#32 } (s'.mem s'.pc.toNat) with
          | none => (s'.out, 12, k' + 1)
          | some s2 => if s2.stop = true then (s2.out, 0, k' + 1) else runC n { s2 with digit := isDig (s'.mem s'.pc.toNat) } (k' + 1)) := ⟨by rw [← HR.out, runC, if_pos hpc]; rfl⟩
        clear HR
        generalize s'.mem s'.pc.toNat = c at *
        go_wp2_with fail
        refine (execute_any HM4.out c HI.out.1 (by have := HI.out.2; show s'.out.length < _; omega)).mono ?_
        rintro e w6 hE
        obtain ⟨r, hr⟩ : ∃ r, execC { s' with pc := s'.pc + 1#32 } c = r := ⟨_, rfl⟩
        rw [hr] at hE HRC
        have HOUT : Keep (s'.out.length ≤ k') := ⟨HI.out.2⟩
        cases r with
        | none =>
          obtain ⟨hw, htr, s2, ho2, hm2⟩ := hE
          obtain rfl : e = _ := htr
          have HE6 := Mw.errno hw HE4.out
          refine leaves_cons (f := 48) (args := #[.pointer (some ⟨E, 0, none⟩)]) (by simp) (by simp [go_sem]) ?_
          refine (catch_trap E 0 _ HE6).mono ?_
          rintro e u' w9 ⟨rfl, rfl, g1, hg⟩
          have c1' : w9.cell? ⟨E, 0, none⟩ = some (.int .i64 12) := by simp [World.cell?, g1]
          have hmF := MIn.away hm2 HE6 HEB.out hg
          have hwF := Mw.away (HW4.out.trans hw) HEE.out hg
          rw [HRC.out]
          simp [Leaves, settle, results, Tryz.results25, go_sem, c1', RunEnd]
          exact ⟨⟨s2, ho2, hmF⟩, hwF⟩
        | some s2 =>
          obtain ⟨hw, ⟨u2, rfl⟩, hm2⟩ := hE
          have HE6 := Keep.mk (Mw.errno hw HE4.out)
          have HW6 := Keep.mk (HW4.out.trans hw)
          have HM6 := Keep.mk hm2
          have HO2 : Keep (s2.out.length ≤ k' + 1) := ⟨by have h1 := execC_out hr; have h2 := HOUT.out; exact Nat.le_trans h1 (by show s'.out.length + 1 ≤ _; omega)⟩
          have HD2 : Keep (isDig c = true → s2.data ≠ []) := ⟨execC_dig hr⟩
          clear hw hm2 hr HW4 HM4 HE4
          obtain ⟨c1, c7, c8, c6, fz⟩ := HM6.out.field
          have hBl := HM6.out.lt
          have fz6 := fz 6
          clear fz
          cases hst : s2.stop with
          | true =>
            rw [hst] at c8
            have HRR : Keep (runC f s 0 = (s2.out, 0, k' + 1)) := ⟨by rw [HRC.out]; simp only [hst, if_true]⟩
            have y0 : w6.cell? ⟨E, 0, none⟩ = some (.int .i64 0) := by simp [World.cell?, HE6.out]
            have y1 : w6.frozen? ⟨E, 0, none⟩ = false := by simp [World.frozen?, HE6.out]
            have yl : E < w6.heap.size := (Array.getElem?_eq_some_iff.1 HE6.out).1
            clear hst
            go_wp2_with fail
            have g1 := heap_setCell_same w6 E 0 _ _ (.int .i64 0) HE6.out
            have hg1 := setCell_grown w6 ⟨E, 0, none⟩ (.int .i64 0)
            have hm1 := MIn.away HM6.out HE6.out HEB.out hg1
            have hw1 := Mw.away HW6.out HEE.out hg1
            refine leaves_cons (f := 48) (args := #[.pointer (some ⟨E, 0, none⟩)]) (by simp) (by simp [go_sem]) ?_
            refine (catch_calm E _).mono ?_
            rintro e u' w9 ⟨rfl, rfl, hb6⟩
            have i1 := (hb6.block E (Array.getElem?_eq_some_iff.1 g1).1).trans g1
            have c1' : w9.cell? ⟨E, 0, none⟩ = some (.int .i64 0) := by simp [World.cell?, i1]
            have hmF := hm1.below hb6
            have hwF := hw1.trans (Mw.of_below (base := base) hb6)
            rw [HRR.out]
            simp [Leaves, settle, results, Tryz.results25, go_sem, c1', RunEnd]
            exact ⟨⟨_, rfl, hmF⟩, hwF⟩
          | false =>
            rw [hst] at c8
            have HRR : Keep (runC n { s2 with digit := isDig c } (k' + 1) = runC f s 0) := ⟨by rw [HRC.out]; simp only [hst]; rfl⟩
            clear hst HRC
            by_cases g1 : c.toNat < 48
            · have q1 : decide ((48 : Int) ≤ W32 c) = false := by unfold W32; rw [decide_eq_false_iff_not]; omega
              have HDG : Keep (isDig c = false) := ⟨by unfold isDig; rw [decide_eq_false (by omega), Bool.false_and]⟩
              have HDM := Keep.mk (HM6.out.setDigit false)
              go_wp2_with fail
              have HE7 := Mw.errno HDM.out.2 HE6.out
              have hso := stepsOf_eq HDM.out.1
              have hso0 := HSO.out
              go_roundw
              case rel => exact ⟨n, k' + 1, { s2 with digit := false }, by have := HFK.out; omega, ⟨HDM.out.1⟩, ⟨by rw [← HDG.out]; exact HRR.out⟩, ⟨⟨fun hh => HD2.out (HDG.out.trans hh), HO2.out⟩⟩, ⟨HE7⟩, ⟨HW6.out.trans HDM.out.2⟩⟩
              case measure =>
                rw [hso, hso0]
                have := HFK.out
                omega
            · have q1 : decide ((48 : Int) ≤ W32 c) = true := by unfold W32; rw [decide_eq_true_iff]; omega
              by_cases g2 : c.toNat ≤ 57
              · have q2 : decide (W32 c ≤ (57 : Int)) = true := by unfold W32; rw [decide_eq_true_iff]; omega
                have HDG : Keep (isDig c = true) := ⟨by unfold isDig; rw [decide_eq_true (show 48 ≤ c.toNat by omega), decide_eq_true g2, Bool.and_self]⟩
                have HDM := Keep.mk (HM6.out.setDigit true)
                go_wp2_with fail
                have HE7 := Mw.errno HDM.out.2 HE6.out
                have hso := stepsOf_eq HDM.out.1
                have hso0 := HSO.out
                go_roundw
                case rel => exact ⟨n, k' + 1, { s2 with digit := true }, by have := HFK.out; omega, ⟨HDM.out.1⟩, ⟨by rw [← HDG.out]; exact HRR.out⟩, ⟨⟨fun hh => HD2.out (HDG.out.trans hh), HO2.out⟩⟩, ⟨HE7⟩, ⟨HW6.out.trans HDM.out.2⟩⟩
                case measure =>
                  rw [hso, hso0]
                  have := HFK.out
                  omega
              · have q2 : decide (W32 c ≤ (57 : Int)) = false := by unfold W32; rw [decide_eq_false_iff_not]; omega
                have HDG : Keep (isDig c = false) := ⟨by unfold isDig; rw [decide_eq_false g2, Bool.and_false]⟩
                have HDM := Keep.mk (HM6.out.setDigit false)
                go_wp2_with fail
                have HE7 := Mw.errno HDM.out.2 HE6.out
                have hso := stepsOf_eq HDM.out.1
                have hso0 := HSO.out
                go_roundw
                case rel => exact ⟨n, k' + 1, { s2 with digit := false }, by have := HFK.out; omega, ⟨HDM.out.1⟩, ⟨by rw [← HDG.out]; exact HRR.out⟩, ⟨⟨fun hh => HD2.out (HDG.out.trans hh), HO2.out⟩⟩, ⟨HE7⟩, ⟨HW6.out.trans HDM.out.2⟩⟩
                case measure =>
                  rw [hso, hso0]
                  have := HFK.out
                  omega
      · have p1 : decide (W32 s'.pc < 262144) = false := by unfold W32; rw [decide_eq_false_iff_not]; omega
        have HRR : Keep (runC f s 0 = (s'.out, 12, k' + 1)) := ⟨by rw [← HR.out, runC, if_neg hpc]⟩
        go_upto_region 4 with (fail)
        rw [E1.out]
        have HE2 : Keep ((wr.setCell ⟨B, 7, none⟩ (.int .i64 ((k' + 1 : Nat) : Int))).heap[E]? = some (.cells #[.int .i64 0] 26 (0, 0))) := ⟨Mw.errno HS1.out.2 HEr.out⟩
        have HW2 := Keep.mk (HW.out.trans HS1.out.2)
        have HM2 := Keep.mk HS1.out.1
        clear c1 c7 c8 c6 fz7 hBl HFZ HM HS1 HEr HW
        generalize (wr.setCell ⟨B, 7, none⟩ (.int .i64 ((k' + 1 : Nat) : Int))) = w2 at *
        obtain ⟨c1, c7, c8, c6, fz⟩ := HM2.out.field
        have hBl := HM2.out.lt
        clear fz
        go_wp2_with fail
        refine (check_bad _).mono ?_
        rintro _ w3 ⟨rfl, rfl⟩
        refine leaves_cons (f := 48) (args := #[.pointer (some ⟨E, 0, none⟩)]) (by simp) (by simp [go_sem]) ?_
        refine (catch_trap E 0 _ HE2.out).mono ?_
        rintro e u' w5 ⟨rfl, rfl, g1, hg⟩
        have c1' : w5.cell? ⟨E, 0, none⟩ = some (.int .i64 12) := by simp [World.cell?, g1]
        have hmF := MIn.away HM2.out HE2.out HEB.out hg
        have hwF := Mw.away HW2.out HEE.out hg
        rw [HRR.out]
        simp [Leaves, settle, results, Tryz.results25, go_sem, c1', RunEnd]
        exact ⟨⟨_, rfl, hmF⟩, hwF⟩
end Go.Proofs.YtojgopbaiflfgaaGreatDoor
