/- Nested sums: what the checker says of them, and how they lie in memory. No condition. -/
import Derived.Test.YtgimdbflpdmlmaaCkAlive
namespace Go.Proofs.Ytgimdbflpdmlmaa
set_option maxRecDepth 100000
open Go.RowKit Go.Shelf Go.Proofs.Ytgimdbflpdmlmaa.Ck

def rightE : Nat → Ex
  | 0 => numE 1
  | k + 1 => .mk sAdd 0 ⟨#[]⟩ [numE 2, rightE k]
def leftE : Nat → Ex
  | 0 => numE 1
  | k + 1 => .mk sAdd 0 ⟨#[]⟩ [leftE k, numE 2]
theorem exprC_num (c : Cx) (n : Int) (d : Nat) : exprC c (numE n) d = .ok (1, d) := by
  unfold numE
  rw [exprC, exprsC_nil]
  rfl
theorem exprC_add {c : Cx} {a b : Ex} {d x y : Nat} (ha : exprC c a d = .ok (x, d)) (hb : exprC c b d = .ok (y, d)) : exprC c (.mk sAdd 0 ⟨#[]⟩ [a, b]) d = .ok (max 2 (max x (1 + y)), d) := by
  rw [exprC, exprsC_cons, ha]
  simp only [Res.bind_ok]
  rw [exprsC_cons, hb]
  simp only [Res.bind_ok, exprsC_nil]
  have h1 : req (decide (operands sAdd = -1) || decide (operands sAdd = (([a, b] : List Ex).length : Int))) c.name 3 = .ok () := by
    have : (decide (operands sAdd = -1) || decide (operands sAdd = (([a, b] : List Ex).length : Int))) = true := by
      rw [show operands sAdd = 2 from by decide +kernel]; rfl
    rw [this]; rfl
  rw [h1, Res.bind_ok]
  unfold opC
  rw [if_neg (by decide +kernel), if_neg (by decide +kernel), if_neg (by decide +kernel), if_neg (by decide +kernel), if_neg (by decide +kernel), if_neg (by decide +kernel)]
  unfold needBin
  rw [if_neg (by decide +kernel), if_neg (by decide +kernel), if_neg (by decide +kernel), if_neg (by decide +kernel)]
  rfl
theorem exprC_right (c : Cx) (d : Nat) : ∀ k, exprC c (rightE k) d = .ok (k + 1, d)
  | 0 => exprC_num c 1 d
  | k + 1 => by
    rw [rightE, exprC_add (exprC_num c 2 d) (exprC_right c d k)]
    congr 2
    omega
theorem exprC_left (c : Cx) (d : Nat) : ∀ k, ∃ n, n ≤ 2 ∧ exprC c (leftE k) d = .ok (n, d)
  | 0 => ⟨1, by omega, exprC_num c 1 d⟩
  | k + 1 => by
    obtain ⟨n, hn, h⟩ := exprC_left c d k
    refine ⟨2, Nat.le_refl _, ?_⟩
    rw [leftE, exprC_add h (exprC_num c 2 d)]
    congr 2
    omega
/-- The program with one assignment. -/
theorem check_one {e : Ex} {n : Nat} (h : exprC ⟨[sX, sMain], [sX], [], [], sMain, []⟩ e 1 = .ok (n, 1)) : check (oneP [sX] [assignS sX e]) = if max 2 n ≤ 200 then (⟨#[]⟩, 0) else (⟨#[109, 97, 105, 110]⟩, 6) := by
  have g1 : globalsC [] [sX] = .ok [sX] := by kernel_rfl
  have g2 : globalsC [sX] [] = .ok [sX] := rfl
  have g3 : globalsC [sX] [sMain] = .ok [sX, sMain] := by kernel_rfl
  have hs : stC ⟨[sX, sMain], [sX], [], [], sMain, []⟩ (assignS sX e) 1 = .ok (max 2 n, 1) := by
    unfold assignS
    rw [stC]
    have hf : formed (.mk 1 sX [] [e] [] []) = true := by kernel_rfl
    rw [hf, if_neg (by decide)]
    show (exprC _ e 1).bind _ = _
    rw [h]
    simp only [Res.bind_ok]
    rw [if_pos trivial]
    have hsc : scalarC ⟨[sX, sMain], [sX], [], [], sMain, []⟩ sX = .ok () := by kernel_rfl
    rw [hsc]
    rfl
  have hf : functionsC ⟨[sX, sMain], [sX], [], [], ⟨#[]⟩, []⟩ [⟨sMain, [], [], [assignS sX e]⟩] = .ok ⟨[sX, sMain], [sX], [], [(sMain, ⟨0, max 2 (max 1 (max (max 2 n) 0)), 1⟩)], sMain, []⟩ := by
    rw [functionsC]
    unfold functionC
    show ((ownC [sX, sMain] [] []).bind _).bind _ = _
    rw [ownC]
    simp only [Res.bind_ok]
    rw [stsC_cons, hs]
    simp only [Res.bind_ok, stsC_nil]
    rfl
  have hp : programC (oneP [sX] [assignS sX e]) = if max 2 n ≤ 200 then .ok () else .bad (⟨#[109, 97, 105, 110]⟩, 6) := by
    unfold programC oneP
    simp only [List.map_cons, List.map_nil]
    rw [g1]
    simp only [Res.bind_ok]
    rw [g2]
    simp only [Res.bind_ok]
    rw [g3]
    simp only [Res.bind_ok]
    rw [show arraysC 0 [] = .ok 0 from rfl]
    simp only [Res.bind_ok]
    rw [hf]
    simp only [Res.bind_ok]
    rw [show lastMain ⟨[sX], [], [⟨sMain, [], [], [assignS sX e]⟩]⟩ = true from by unfold lastMain; simp]
    rw [show req true sMain 9 = .ok () from rfl]
    simp only [Res.bind_ok]
    rw [show lookF sMain [(sMain, (⟨0, max 2 (max 1 (max (max 2 n) 0)), 1⟩ : Sm))] = some ⟨0, max 2 (max 1 (max (max 2 n) 0)), 1⟩ from by rw [lookF, if_pos rfl]]
    simp only [Option.map_some, Option.getD_some]
    have e1 : scalarsN ⟨[sX], [], [⟨sMain, [], [], [assignS sX e]⟩]⟩ = 1 := by unfold scalarsN; simp
    rw [e1]
    by_cases hn : max 2 n ≤ 200
    · rw [if_pos hn, decide_eq_true (show max 2 (max 1 (max (max 2 n) 0)) ≤ 200 by omega)]
      rfl
    · rw [if_neg hn, decide_eq_false (show ¬ max 2 (max 1 (max (max 2 n) 0)) ≤ 200 by omega)]
      rfl
  unfold check
  rw [hp]
  split <;> split <;> simp_all
theorem check_right (k : Nat) : check (oneP [sX] [assignS sX (rightE k)]) = if k + 1 ≤ 200 then (⟨#[]⟩, 0) else (⟨#[109, 97, 105, 110]⟩, 6) := by
  rw [check_one (exprC_right _ _ k)]
  by_cases h : k + 1 ≤ 200
  · rw [if_pos h, if_pos (by omega)]
  · rw [if_neg h, if_neg (by omega)]
theorem check_left (k : Nat) : check (oneP [sX] [assignS sX (leftE k)]) = (⟨#[]⟩, 0) := by
  obtain ⟨n, hn, h⟩ := exprC_left ⟨[sX, sMain], [sX], [], [], sMain, []⟩ 1 k
  rw [check_one h, if_pos (by omega)]
theorem nodes_right : ∀ k, (rightE k).nodes = 1 + 2 * k
  | 0 => by simp [rightE, numE, Ex.nodes, nodesL]
  | k + 1 => by
    have := nodes_right k
    simp only [rightE, Ex.nodes, nodesL, numE] at *
    omega
theorem nodes_left : ∀ k, (leftE k).nodes = 1 + 2 * k
  | 0 => by simp [leftE, numE, Ex.nodes, nodesL]
  | k + 1 => by
    have := nodes_left k
    simp only [leftE, Ex.nodes, nodesL, numE] at *
    omega
theorem fits_one {e : Ex} (h : e.nodes ≤ 1000) : Fits (oneP [sX] [assignS sX e]) := by
  refine fits_small (by kernel_rfl) ?_
  simp only [oneP, assignS, List.map_cons, List.map_nil, List.sum_cons, List.sum_nil, List.length_cons, List.length_nil, nodesS, St.nodes, nodesL]
  omega
/-- The same as ExsAt, all blocks from base on. -/
def ExsIn (w : World) (base : Nat) : Nat → Value → List Ex → Prop
  | 0, v, l => l = [] ∧ ∃ a cap, v = .slice a 0 cap ∧ cap ≤ maxLen
  | n + 1, v, l => ∃ a cap, v = .slice a l.length cap ∧ l.length ≤ cap ∧ cap ≤ maxLen ∧ (l = [] ∨ ∃ b o, a = some ⟨b, o, none⟩ ∧ base ≤ b ∧ b < w.heap.size ∧ ∀ i e, l[i]? = some e →
      w.cell? ⟨b, o + i * 4, none⟩ = some (.string e.op) ∧ w.cell? ⟨b, o + i * 4 + 1, none⟩ = some (.int .u32 e.num) ∧ w.cell? ⟨b, o + i * 4 + 2, none⟩ = some (.string e.name) ∧
      ∃ u, w.cell? ⟨b, o + i * 4 + 3, none⟩ = some u ∧ ExsIn w base n u e.args)
theorem ExsIn.at {w : World} {base : Nat} : ∀ {n : Nat} {v : Value} {l : List Ex}, ExsIn w base n v l → ExsAt w n v l
  | 0, _, _, h => h
  | n + 1, v, l, h => by
    obtain ⟨a, cap, rfl, h1, h2, h3⟩ := h
    refine ⟨a, cap, rfl, h1, h2, h3.imp id ?_⟩
    rintro ⟨b, o, rfl, _, hlt, hc⟩
    refine ⟨b, o, rfl, hlt, fun i e he => ?_⟩
    obtain ⟨c0, c1, c2, u, c3, hu⟩ := hc i e he
    exact ⟨c0, c1, c2, u, c3, hu.at⟩
theorem ExsIn.kept {w w' : World} {base R : Nat} (hs : w.heap.size ≤ w'.heap.size) (hk : ∀ k, k < w.heap.size → base ≤ k → w'.heap[k]? = w.heap[k]?) : ∀ {n : Nat} {v : Value} {l : List Ex}, ExsIn w base n v l → ExsIn w' base n v l
  | 0, _, _, h => h
  | n + 1, v, l, h => by
    obtain ⟨a, cap, rfl, h1, h2, h3⟩ := h
    refine ⟨a, cap, rfl, h1, h2, h3.imp id ?_⟩
    rintro ⟨b, o, rfl, hba, hlt, hc⟩
    refine ⟨b, o, rfl, hba, Nat.lt_of_lt_of_le hlt hs, fun i e he => ?_⟩
    have key : ∀ j, w'.cell? ⟨b, j, none⟩ = w.cell? ⟨b, j, none⟩ := fun j => World.cell?_of_block (a := ⟨b, j, none⟩) (hk b hlt hba)
    obtain ⟨c0, c1, c2, u, c3, hu⟩ := hc i e he
    exact ⟨(key _).trans c0, (key _).trans c1, (key _).trans c2, u, (key _).trans c3, ExsIn.kept (R := R) hs hk hu⟩
theorem ExsIn.nil (w : World) (base n : Nat) : ExsIn w base n (.slice none 0 0) [] := by
  cases n with
  | zero => exact ⟨rfl, _, _, rfl, by decide⟩
  | succ n => exact ⟨_, _, rfl, Nat.le_refl _, by decide, .inl rfl⟩
theorem ExsIn.two {w : World} {base X n : Nat} {a b : Ex} {ua ub : Value} {t : TypeId} {m : Nat × Nat} (hb : base ≤ X) (hX : w.heap[X]? = some (.cells #[.string a.op, .int .u32 a.num, .string a.name, ua, .string b.op, .int .u32 b.num, .string b.name, ub] t m)) (h1 : ExsIn w base n ua a.args) (h2 : ExsIn w base n ub b.args) : ExsIn w base (n + 1) (.slice (some ⟨X, 0, none⟩) 2 2) [a, b] := by
  refine ⟨_, _, rfl, Nat.le_refl _, by decide, .inr ⟨X, 0, rfl, hb, (Array.getElem?_eq_some_iff.1 hX).1, fun i x hi => ?_⟩⟩
  match i, hi with
  | 0, hi =>
    simp at hi
    subst hi
    exact ⟨by simp [World.cell?, hX], by simp [World.cell?, hX], by simp [World.cell?, hX], ua, by simp [World.cell?, hX], h1⟩
  | 1, hi =>
    simp at hi
    subst hi
    exact ⟨by simp [World.cell?, hX], by simp [World.cell?, hX], by simp [World.cell?, hX], ub, by simp [World.cell?, hX], h2⟩
  | i + 2, hi => simp at hi
end Go.Proofs.Ytgimdbflpdmlmaa
