/- The checker's state while it goes over a program; global. Condition: names no longer than a string can be. -/
import Derived.Test.YtgimdbflpdmlmaaCkStmts
import Derived.Test.YtgimdbflpdmlmaaCkName
namespace Go.Proofs.Ytgimdbflpdmlmaa
set_option maxRecDepth 100000
open Go.RowKit Go.Shelf Go.Proofs.Ytgimdbflpdmlmaa.Ck

/-- Nothing of wk's has turned, but for these blocks. -/
structure Kp (wk w : World) (B G V A F : Nat) : Prop where
  size : wk.heap.size ≤ w.heap.size
  block : ∀ k, k < wk.heap.size → k ≠ B → k ≠ G → k ≠ V → k ≠ A → k ≠ F → w.heap[k]? = wk.heap[k]?
/-- What is kept: all of w0's; all of wk's but these blocks. -/
def Lw (w0 wk w : World) (B G V A F : Nat) : Prop := Below w0.heap.size w0 w ∧ Kp wk w B G V A F
theorem Lw.below {w0 wk w w' : World} {B G V A F : Nat} (h : Lw w0 wk w B G V A F) (hb : Below w.heap.size w w') : Lw w0 wk w' B G V A F :=
  ⟨h.1.trans (hb.mono h.1.size), Nat.le_trans h.2.size hb.size, fun k hk a b c d e => (hb.block k (Nat.lt_of_lt_of_le hk h.2.size)).trans (h.2.block k hk a b c d e)⟩
theorem Lw.grown {w0 wk w w' : World} {B G V A F j : Nat} (h : Lw w0 wk w B G V A F) (hg : w.grownBy w' (some j)) (h0 : w0.heap.size ≤ j) (hj : (j = B ∨ j = G ∨ j = V ∨ j = A ∨ j = F) ∨ wk.heap.size ≤ j) : Lw w0 wk w' B G V A F :=
  ⟨h.1.grown hg h.1.size (fun k hk => by cases hk; exact h0), Nat.le_trans h.2.size hg.size, fun k hk a b c d e => (hg.block k (Nat.lt_of_lt_of_le hk h.2.size) (fun e => by cases e; omega)).trans (h.2.block k hk a b c d e)⟩
theorem Lw.refl {w0 wk : World} {B G V A F : Nat} (h : Below w0.heap.size w0 wk) : Lw w0 wk wk B G V A F := ⟨h, Nat.le_refl _, fun _ _ _ _ _ _ _ => rfl⟩
/-- The checker's box and its maps, made behind w0, whatever the current function. -/
structure PrSt (w0 wk w : World) (B G V A F : Nat) (c : Cx) : Prop where
  low : Lw w0 wk w B G V A F
  hB : w0.heap.size ≤ B
  hG : w0.heap.size ≤ G
  hV : w0.heap.size ≤ V
  hA : w0.heap.size ≤ A
  hF : w0.heap.size ≤ F
  box : ∃ nm ow dp, w.heap[B]? = some (.cells #[.map (some G), .map (some V), .map (some A), .map (some F), .string nm, .map ow, .int .i64 dp] 76 (0, 0))
  g : SetL w G c.globals
  v : SetL w V c.vars
  a : SetL w A c.arrays
  f : SumL w F c.funcs
  dis : (G ≠ V ∧ G ≠ A ∧ G ≠ F) ∧ V ≠ A ∧ V ≠ F ∧ A ≠ F
section
variable {w0 wk w w' : World} {B G V A F : Nat} {c : Cx}
theorem PrSt.lt (h : PrSt w0 wk w B G V A F c) : B < w.heap.size := by obtain ⟨_, _, _, hx⟩ := h.box; exact (Array.getElem?_eq_some_iff.1 hx).1
theorem PrSt.below (h : PrSt w0 wk w B G V A F c) (hb : Below w.heap.size w w') : PrSt w0 wk w' B G V A F c := by
  obtain ⟨nm, ow, dp, hx⟩ := h.box
  exact ⟨h.low.below hb, h.hB, h.hG, h.hV, h.hA, h.hF, ⟨nm, ow, dp, (hb.block B h.lt).trans hx⟩, h.g.below hb, h.v.below hb, h.a.below hb, h.f.below hb, h.dis⟩
theorem SetL.ne_box {M : Nat} {l : List ByteArray} {cs : Array Value} {t : TypeId} {m : Nat × Nat} (h : SetL w M l) (hx : w.heap[B]? = some (.cells cs t m)) : M ≠ B := by
  rintro rfl
  obtain ⟨_, ⟨es, cl, h1, _⟩, _⟩ := h
  rw [h1] at hx
  cases hx
theorem SumL.ne_box {M : Nat} {l : List (ByteArray × Sm)} {cs : Array Value} {t : TypeId} {m : Nat × Nat} (h : SumL w M l) (hx : w.heap[B]? = some (.cells cs t m)) : M ≠ B := by
  rintro rfl
  obtain ⟨_, ⟨es, cl, h1, _⟩, _⟩ := h
  rw [h1] at hx
  cases hx
theorem SetL.put {M : Nat} {l : List ByteArray} {m : List (ByteArray × Value)} {x : ByteArray} (hm : ∀ k, lookL k m = if k ∈ l then some (.bool true) else none) (h : MapIs SK w' M (putL x (.bool true) m)) : SetL w' M (l ++ [x]) := by
  refine ⟨_, h, fun k => ?_⟩
  rw [look_put, hm]
  by_cases hk : k = x
  · subst hk; simp
  · by_cases hl : k ∈ l <;> simp [hk, hl]
theorem PrSt.cells (h : PrSt w0 wk w B G V A F c) : w.cell? ⟨B, 0, none⟩ = some (.map (some G)) ∧ w.cell? ⟨B, 1, none⟩ = some (.map (some V)) ∧ w.cell? ⟨B, 2, none⟩ = some (.map (some A)) ∧ w.cell? ⟨B, 3, none⟩ = some (.map (some F)) := by
  obtain ⟨nm, ow, dp, hx⟩ := h.box
  refine ⟨?_, ?_, ?_, ?_⟩ <;> simp [World.cell?, hx]
/-- One global name more. -/
theorem PrSt.putG (h : PrSt w0 wk w B G V A F c) {m : List (ByteArray × Value)} {x : ByteArray} (hm : ∀ k, lookL k m = if k ∈ c.globals then some (.bool true) else none) (h1 : MapIs SK w' G (putL x (.bool true) m)) (h2 : w.grownBy w' (some G)) :
    PrSt w0 wk w' B G V A F { c with globals := c.globals ++ [x] } := by
  obtain ⟨nm, ow, dp, hx⟩ := h.box
  have e : ∀ {a b : Nat}, a ≠ b → some a ≠ some b := fun h e => h (Option.some.inj e)
  exact ⟨h.low.grown h2 h.hG (by simp), h.hB, h.hG, h.hV, h.hA, h.hF, ⟨nm, ow, dp, (h2.block B h.lt (e (h.g.ne_box hx).symm)).trans hx⟩, SetL.put hm h1,
    h.v.kept h2 (e h.dis.1.1.symm), h.a.kept h2 (e h.dis.1.2.1.symm), h.f.kept h2 (e h.dis.1.2.2.symm), h.dis⟩
theorem PrSt.putV (h : PrSt w0 wk w B G V A F c) {m : List (ByteArray × Value)} {x : ByteArray} (hm : ∀ k, lookL k m = if k ∈ c.vars then some (.bool true) else none) (h1 : MapIs SK w' V (putL x (.bool true) m)) (h2 : w.grownBy w' (some V)) :
    PrSt w0 wk w' B G V A F { c with vars := c.vars ++ [x] } := by
  obtain ⟨nm, ow, dp, hx⟩ := h.box
  have e : ∀ {a b : Nat}, a ≠ b → some a ≠ some b := fun h e => h (Option.some.inj e)
  exact ⟨h.low.grown h2 h.hV (by simp), h.hB, h.hG, h.hV, h.hA, h.hF, ⟨nm, ow, dp, (h2.block B h.lt (e (h.v.ne_box hx).symm)).trans hx⟩, h.g.kept h2 (e h.dis.1.1),
    SetL.put hm h1, h.a.kept h2 (e h.dis.2.1.symm), h.f.kept h2 (e h.dis.2.2.1.symm), h.dis⟩
theorem PrSt.putA (h : PrSt w0 wk w B G V A F c) {m : List (ByteArray × Value)} {x : ByteArray} (hm : ∀ k, lookL k m = if k ∈ c.arrays then some (.bool true) else none) (h1 : MapIs SK w' A (putL x (.bool true) m)) (h2 : w.grownBy w' (some A)) :
    PrSt w0 wk w' B G V A F { c with arrays := c.arrays ++ [x] } := by
  obtain ⟨nm, ow, dp, hx⟩ := h.box
  have e : ∀ {a b : Nat}, a ≠ b → some a ≠ some b := fun h e => h (Option.some.inj e)
  exact ⟨h.low.grown h2 h.hA (by simp), h.hB, h.hG, h.hV, h.hA, h.hF, ⟨nm, ow, dp, (h2.block B h.lt (e (h.a.ne_box hx).symm)).trans hx⟩, h.g.kept h2 (e h.dis.1.2.1),
    h.v.kept h2 (e h.dis.2.1), SetL.put hm h1, h.f.kept h2 (e h.dis.2.2.2.symm), h.dis⟩
end
/-- What a step over the program leaves. -/
def PrEnd (w0 wk : World) (B G V A F : Nat) (r : Res Cx) (e : Ending) (w' : World) : Prop :=
  match r with | .bad v => Bad v e ∧ Lw w0 wk w' B G V A F | .ok c' => (∃ v, e = .returned v) ∧ PrSt w0 wk w' B G V A F c'
theorem PrEnd.bad {w0 wk w' : World} {B G V A F : Nat} {r : Res Cx} {v : Viol} (hr : r = .bad v) (h : Lw w0 wk w' B G V A F) : PrEnd w0 wk B G V A F r (.panicked [{ v := violV v, recovered := false }]) w' := by subst hr; exact ⟨rfl, h⟩
theorem PrEnd.ok {w0 wk w' : World} {B G V A F : Nat} {r : Res Cx} {c' : Cx} {v : Value} (hr : r = .ok c') (h : PrSt w0 wk w' B G V A F c') : PrEnd w0 wk B G V A F r (.returned v) w' := by subst hr; exact ⟨⟨v, rfl⟩, h⟩

set_option maxHeartbeats 4000000 in
theorem global_any {w0 wk w : World} {B G V A F : Nat} {c : Cx} (h : PrSt w0 wk w B G V A F c) (name : ByteArray) (hn : name.size ≤ maxLen) :
    Calls Try.prog 45 #[.pointer (some ⟨B, 0, none⟩), .string name] w fun e w' => PrEnd w0 wk B G V A F ((globalC c.globals name).bind fun g => .ok { c with globals := g }) e w' := by
  have H := Keep.mk h
  have HQ : Keep (((globalC c.globals name).bind fun g => Res.ok { c with globals := g }) = (req (Ck.isName name) name 7).bind fun _ => (req (!decide (name ∈ c.globals)) name 8).bind fun _ => .ok { c with globals := c.globals ++ [name] }) := ⟨by
    unfold globalC
    cases req (Ck.isName name) name 7 with
    | bad v => rfl
    | ok u => simp only [Res.bind_ok]; cases req (!decide (name ∈ c.globals)) name 8 <;> rfl⟩
  have HI := Keep.mk (isName_any name w hn)
  clear h
  generalize hq : ((globalC c.globals name).bind fun g => Res.ok { c with globals := g }) = q at *
  clear hq
  go_enter Try.func45, Try.ntmps45
  go_wp2_with fail
  refine HI.out.mono ?_
  rintro _ w1 ⟨rfl, hb1⟩
  have H1 := Keep.mk (H.out.below hb1)
  clear hb1 H HI
  cases hi : Ck.isName name with
  | false =>
    rw [hi] at HQ
    go_wp2_with fail
    refine (require_bad _ _ _).mono ?_
    rintro _ w2 ⟨rfl, rfl⟩
    exact ⟨rfl, PrEnd.bad HQ.out H1.out.low⟩
  | true =>
    rw [hi] at HQ
    go_wp2_with fail
    refine (require_ok _ _ _).mono ?_
    rintro _ w2 ⟨⟨v2, rfl⟩, rfl⟩
    obtain ⟨c0, _⟩ := H1.out.cells
    have hl := H1.out.lt
    have hg := H1.out.g.look name
    obtain ⟨m, hM, hm⟩ := H1.out.g
    have HM := Keep.mk hM
    have Hm := Keep.mk hm
    clear hM hm hi
    by_cases hk : name ∈ c.globals
    · rw [decide_eq_true hk] at hg HQ
      clear hk
      go_wp2_with fail
      refine (require_bad _ _ _).mono ?_
      rintro _ w2 ⟨rfl, rfl⟩
      exact ⟨rfl, PrEnd.bad HQ.out H1.out.low⟩
    · rw [decide_eq_false hk] at hg HQ
      clear hk
      go_wp2_with fail
      refine (require_ok _ _ _).mono ?_
      rintro _ w2 ⟨⟨v3, rfl⟩, rfl⟩
      go_wp2_with (first
        | ((with_reducible (show wpList _ _ _ (⟨none, Op.mapUpdate _ _ _ _, _, _, _, _⟩ :: _) _ _)); go_must (refine wpList_store rfl _ _ _ _ rfl Try.underlying37 rfl HM.out _ rfl ?_); intro w' h1 h2; have HP := Keep.mk (H1.out.putG Hm.out h1 h2); clear h1 h2))
      go_end0
      exact PrEnd.ok HQ.out HP.out
end Go.Proofs.Ytgimdbflpdmlmaa
