/- The checker's small functions. Conditions: none. -/
import Derived.Test.YtgimdbflpdmlmaaCkMem
import Derived.BigQuiet
import Derived.Deep.DeepMust
import Derived.Deep.QuietTactic
namespace Go.Proofs.Ytgimdbflpdmlmaa
set_option maxRecDepth 100000
open Go.RowKit Go.Shelf Go.Proofs.Ytgimdbflpdmlmaa.Ck

/-- A map of the call's own, being filled. -/
def MB (w0 w : World) (b : Nat) (l : List (ByteArray × Value)) : Prop := MapIs SK w b l ∧ Below w0.heap.size w0 w ∧ w0.heap.size ≤ b
theorem MB.cast {w0 w : World} {b : Nat} {l l' : List (ByteArray × Value)} (h : MB w0 w b l) (e : l = l') : MB w0 w b l' := e ▸ h
theorem wpList_insertB {w0 w : World} {b : Nat} {l : List (ByteArray × Value)} {ops : Array Oper} {rest : List Oper} {o : Oper} {a : Act} {Q : Exit → Act → World → Prop}
    (hg : o.guard = none) (m : Operand) (t : TypeId) (k : ByteArray) (u : Value) (hop : o.op = Op.insert t m (.const (.string k)) (.const u)) {e : TypeId} (ht : Try.prog.underlying t = some (.map 9 e))
    (hm : a.eval m = .map (some b)) (h : MB w0 w b l)
    (hK : ∀ w', MB w0 w' b (putL k u l) → wpList Try.prog ops Q rest (a.put o.dst undef) w') :
    wpList Try.prog ops Q (o :: rest) a w := by
  refine wpList_plain hg fun K' hK' => ?_
  obtain ⟨h1, h2, h3⟩ := h
  obtain ⟨w', hrun, r1, r2⟩ := h1.store ht k u
  unfold Oper.wp
  have hrun' : (Instr.mapUpdate t (.map (some b)) (.string k) u).run Try.prog w = .ok () w' := hrun
  have hc : ∀ v : Value, a.eval (.const v) = v := fun _ => rfl
  simp [execOp, hop, hm, hc, hrun', Result.andThen]
  exact hK' _ _ (hK w' ⟨r1, h2.grown r2 h2.size (fun j hj => by cases hj; exact h3), h3⟩)
theorem wpList_lookB {w0 w : World} {b : Nat} {l l' : List (ByteArray × Value)} {ops : Array Oper} {rest : List Oper} {o : Oper} {a : Act} {Q : Exit → Act → World → Prop}
    (hg : o.guard = none) (m x : Operand) (t : TypeId) (hop : o.op = Op.lookup t m x true) {e : TypeId} (ht : Try.prog.underlying t = some (.map 9 e))
    (hm : a.eval m = .map (some b)) (h : MB w0 w b l) (hl : l = l') (k : ByteArray) (hx : a.eval x = .string k) {z : Value} (hz : ∀ w : World, (zeroValue e).run Try.prog w = .ok z w) {r : Option Value} (hr : lookL k l' = r)
    (hK : Below w0.heap.size w0 w → wpList Try.prog ops Q rest (a.put o.dst (.tuple #[r.getD z, .bool r.isSome])) w) :
    wpList Try.prog ops Q (o :: rest) a w := by
  refine wpList_plain hg fun K' hK' => ?_
  subst hl
  have hlk := MapIs.look h.1 ht hz k true
  rw [hr] at hlk
  have hlk' : (Instr.lookup t (.map (some b)) (.string k) true).run Try.prog w = .ok (.tuple #[r.getD z, .bool r.isSome]) w := by rw [if_pos rfl] at hlk; exact hlk
  unfold Oper.wp
  simp [execOp, hop, hm, hx, hlk', Result.andThen]
  exact hK' _ _ (hK h.2.1)
theorem look_tab (op : BA) : ∀ l : List (BA × Int), (∀ v, lookL op (l.map fun p => (p.1, Value.int .i64 p.2)) = some v → v = .int .i64 (tabLook op l)) ∧ (lookL op (l.map fun p => (p.1, Value.int .i64 p.2)) = none → tabLook op l = -2)
  | [] => by simp [lookL, tabLook]
  | (k, v) :: l => by
    simp only [List.map_cons, lookL, tabLook]
    by_cases h : op = k
    · simp [h]
    · simp only [if_neg h]
      exact look_tab op l
set_option maxHeartbeats 4000000 in
theorem operands_any (op : ByteArray) (w : World) : Calls Try.prog 88 #[.string op] w fun e w' => e = .returned (.int .i64 (operands op)) ∧ Below w.heap.size w w' := by
  have hmm := @run_makeMap Try.prog
  have H0 : MB w (w.alloc (.map #[] 0)) w.heap.size [] := ⟨MapIs.made SK w, (Below.refl _ _).alloc (Nat.le_refl _) _, Nat.le_refl _⟩
  go_enter Try.func88, Try.ntmps88
  obtain ⟨t1, t2⟩ := look_tab op opsTab
  cases hL : lookL op (opsTab.map fun p => (p.1, Value.int .i64 p.2)) with
  | none =>
    have h2 := Keep.mk (t2 hL)
    clear t1 t2
    go_wp2_with (first
      | ((with_reducible (show wpList _ _ _ (⟨none, Op.insert _ _ _ _, _, _, _, _⟩ :: _) _ _)); go_must (refine wpList_insertB rfl _ _ _ _ rfl Try.underlying143 rfl (by assumption) ?_); intro w' hM')
      | ((with_reducible (show wpList _ _ _ (⟨_, Op.lookup _ _ _ _, _, _, _, _⟩ :: _) _ _)); go_must (refine wpList_lookB (l' := opsTab.map fun p => (p.1, Value.int .i64 p.2)) rfl _ _ _ rfl Try.underlying143 rfl (by assumption) (by kernel_rfl) _ rfl (z := .int .i64 0) (fun w => by kernel_rfl) hL ?_); intro hB; have HB := Keep.mk hB; clear hB))
    go_ret
    exact ⟨by unfold operands; rw [h2.out]; rfl, HB.out⟩
  | some v =>
    have h1 := t1 v hL
    subst h1
    clear t1 t2
    go_wp2_with (first
      | ((with_reducible (show wpList _ _ _ (⟨none, Op.insert _ _ _ _, _, _, _, _⟩ :: _) _ _)); go_must (refine wpList_insertB rfl _ _ _ _ rfl Try.underlying143 rfl (by assumption) ?_); intro w' hM')
      | ((with_reducible (show wpList _ _ _ (⟨_, Op.lookup _ _ _ _, _, _, _, _⟩ :: _) _ _)); go_must (refine wpList_lookB (l' := opsTab.map fun p => (p.1, Value.int .i64 p.2)) rfl _ _ _ rfl Try.underlying143 rfl (by assumption) (by kernel_rfl) _ rfl (z := .int .i64 0) (fun w => by kernel_rfl) hL ?_); intro hB; have HB := Keep.mk hB; clear hB))
    go_ret
    exact ⟨rfl, HB.out⟩

/-- The checker's box and its maps. -/
structure CkIn (w : World) (B G V A F O : Nat) (c : Cx) (d : Nat) : Prop where
  box : w.heap[B]? = some (.cells #[.map (some G), .map (some V), .map (some A), .map (some F), .string c.name, .map (some O), .int .i64 d] 76 (0, 0))
  g : SetL w G c.globals
  v : SetL w V c.vars
  a : SetL w A c.arrays
  f : SumL w F c.funcs
  o : SetL w O c.own
section
variable {w w' : World} {B G V A F O : Nat} {c : Cx} {d : Nat}
theorem CkIn.lt (h : CkIn w B G V A F O c d) : B < w.heap.size := (Array.getElem?_eq_some_iff.1 h.box).1
theorem CkIn.cell (h : CkIn w B G V A F O c d) (i : Nat) : w.cell? ⟨B, i, none⟩ = [Value.map (some G), .map (some V), .map (some A), .map (some F), .string c.name, .map (some O), .int .i64 d][i]? := by
  simp only [World.cell?, h.box]
  simp
theorem CkIn.frozen (h : CkIn w B G V A F O c d) (i : Nat) : w.frozen? ⟨B, i, none⟩ = false := by simp [World.frozen?, h.box]
theorem SetL.lt {M : Nat} {l : List ByteArray} (h : SetL w M l) : M < w.heap.size := by obtain ⟨m, h1, _⟩ := h; exact h1.lt
theorem SumL.lt {M : Nat} {l : List (ByteArray × Sm)} (h : SumL w M l) : M < w.heap.size := by obtain ⟨m, h1, _⟩ := h; exact h1.lt
theorem SetL.below {M : Nat} {l : List ByteArray} (h : SetL w M l) (hb : Below w.heap.size w w') : SetL w' M l := by obtain ⟨m, h1, h2⟩ := h; exact ⟨m, h1.below hb h1.lt, h2⟩
theorem SumL.below {M : Nat} {l : List (ByteArray × Sm)} (h : SumL w M l) (hb : Below w.heap.size w w') : SumL w' M l := by obtain ⟨m, h1, h2⟩ := h; exact ⟨m, h1.below hb h1.lt, h2⟩
theorem CkIn.below (h : CkIn w B G V A F O c d) (hb : Below w.heap.size w w') : CkIn w' B G V A F O c d :=
  ⟨(hb.block B h.lt).trans h.box, h.g.below hb, h.v.below hb, h.a.below hb, h.f.below hb, h.o.below hb⟩
end
/-- A contract that ends as the plain check does, the world as it was. -/
def Ends {α : Type} (r : Res α) (ok : α → Ending → Prop) (e : Ending) : Prop := match r with | .bad v => Bad v e | .ok a => ok a e

theorem require_ok (name : ByteArray) (e0 : Int) (w : World) : Calls Try.prog 46 #[.bool true, .string name, .int .i64 e0] w fun e w' => (∃ v, e = .returned v) ∧ w = w' := by simpa using require_any true name e0 w
theorem require_bad (name : ByteArray) (e0 : Int) (w : World) : Calls Try.prog 46 #[.bool false, .string name, .int .i64 e0] w fun e w' => Bad (name, e0) e ∧ w = w' := by simpa using require_any false name e0 w
set_option maxHeartbeats 4000000 in
theorem scalar_any {w : World} {B G V A F O : Nat} {c : Cx} {d : Nat} (h : CkIn w B G V A F O c d) (name : ByteArray) :
    Calls Try.prog 86 #[.pointer (some ⟨B, 0, none⟩), .string name] w fun e w' => Ends (scalarC c name) (fun _ e => ∃ v, e = .returned v) e ∧ w = w' := by
  have hv := h.v.look name
  have ho := h.o.look name
  have hg := h.g.look name
  have c0 := h.cell 0
  have c1 := h.cell 1
  have c5 := h.cell 5
  have hl := h.lt
  simp only [List.getElem?_cons_zero, List.getElem?_cons_succ] at c0 c1 c5
  clear h
  unfold scalarC
  go_enter Try.func86, Try.ntmps86
  by_cases h1 : name ∈ c.vars
  · rw [decide_eq_true h1] at hv
    rw [if_pos (Or.inl h1)]
    clear h1
    go_wp2_with fail
    refine (require_ok _ _ _).mono ?_
    rintro _ w1 ⟨⟨v1, rfl⟩, rfl⟩
    go_wp2_with fail
    refine (require_ok _ _ _).mono ?_
    rintro _ w1 ⟨⟨v1, rfl⟩, rfl⟩
    go_wp2_with fail
    go_end0
    exact ⟨⟨_, rfl⟩, rfl⟩
  · rw [decide_eq_false h1] at hv
    by_cases h2 : name ∈ c.own
    · rw [decide_eq_true h2] at ho
      rw [if_pos (Or.inr h2)]
      clear h1 h2
      go_wp2_with fail
      refine (require_ok _ _ _).mono ?_
      rintro _ w1 ⟨⟨v1, rfl⟩, rfl⟩
      go_wp2_with fail
      refine (require_ok _ _ _).mono ?_
      rintro _ w1 ⟨⟨v1, rfl⟩, rfl⟩
      go_wp2_with fail
      go_end0
      exact ⟨⟨_, rfl⟩, rfl⟩
    · rw [decide_eq_false h2] at ho
      rw [if_neg (fun h => h.elim h1 h2)]
      by_cases h3 : name ∈ c.globals
      · rw [decide_eq_true h3] at hg
        rw [if_pos h3]
        clear h1 h2 h3
        go_wp2_with fail
        refine (require_bad _ _ _).mono ?_
        rintro _ w1 ⟨rfl, rfl⟩
        exact ⟨rfl, rfl, rfl⟩
      · rw [decide_eq_false h3] at hg
        rw [if_neg h3]
        clear h1 h2 h3
        go_wp2_with fail
        refine (require_ok _ _ _).mono ?_
        rintro _ w1 ⟨⟨v1, rfl⟩, rfl⟩
        go_wp2_with fail
        refine (require_bad _ _ _).mono ?_
        rintro _ w1 ⟨rfl, rfl⟩
        exact ⟨rfl, rfl, rfl⟩
set_option maxHeartbeats 4000000 in
theorem array_any {w : World} {B G V A F O : Nat} {c : Cx} {d : Nat} (h : CkIn w B G V A F O c d) (name : ByteArray) :
    Calls Try.prog 87 #[.pointer (some ⟨B, 0, none⟩), .string name] w fun e w' => Ends (arrayC c name) (fun _ e => ∃ v, e = .returned v) e ∧ w = w' := by
  have ha := h.a.look name
  have ho := h.o.look name
  have hg := h.g.look name
  have c0 := h.cell 0
  have c2 := h.cell 2
  have c5 := h.cell 5
  have hl := h.lt
  simp only [List.getElem?_cons_zero, List.getElem?_cons_succ] at c0 c2 c5
  clear h
  unfold arrayC
  go_enter Try.func87, Try.ntmps87
  by_cases h1 : name ∈ c.arrays
  · rw [decide_eq_true h1] at ha
    rw [if_pos h1]
    clear h1
    go_wp2_with fail
    refine (require_ok _ _ _).mono ?_
    rintro _ w1 ⟨⟨v1, rfl⟩, rfl⟩
    go_wp2_with fail
    refine (require_ok _ _ _).mono ?_
    rintro _ w1 ⟨⟨v1, rfl⟩, rfl⟩
    go_wp2_with fail
    go_end0
    exact ⟨⟨_, rfl⟩, rfl⟩
  · rw [decide_eq_false h1] at ha
    rw [if_neg h1]
    by_cases h2 : name ∈ c.globals
    · rw [decide_eq_true h2] at hg
      rw [if_pos (Or.inl h2)]
      clear h1 h2
      go_wp2_with fail
      refine (require_bad _ _ _).mono ?_
      rintro _ w1 ⟨rfl, rfl⟩
      exact ⟨rfl, rfl, rfl⟩
    · rw [decide_eq_false h2] at hg
      by_cases h3 : name ∈ c.own
      · rw [decide_eq_true h3] at ho
        rw [if_pos (Or.inr h3)]
        clear h1 h2 h3
        go_wp2_with fail
        refine (require_bad _ _ _).mono ?_
        rintro _ w1 ⟨rfl, rfl⟩
        exact ⟨rfl, rfl, rfl⟩
      · rw [decide_eq_false h3] at ho
        rw [if_neg (fun h => h.elim h2 h3)]
        clear h1 h2 h3
        go_wp2_with fail
        refine (require_ok _ _ _).mono ?_
        rintro _ w1 ⟨⟨v1, rfl⟩, rfl⟩
        go_wp2_with fail
        refine (require_bad _ _ _).mono ?_
        rintro _ w1 ⟨rfl, rfl⟩
        exact ⟨rfl, rfl, rfl⟩
end Go.Proofs.Ytgimdbflpdmlmaa
