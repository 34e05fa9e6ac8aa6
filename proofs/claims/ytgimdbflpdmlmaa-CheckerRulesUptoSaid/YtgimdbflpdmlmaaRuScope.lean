/- The reference's has, Binary, shape, scope, function. No condition. -/
import Derived.Test.YtgimdbflpdmlmaaCkName
import Derived.Test.YtgimdbflpdmlmaaStrOwn
import Derived.Test.YtgimdbflpdmlmaaCkSizeP
namespace Go.Proofs.Ytgimdbflpdmlmaa
set_option maxRecDepth 100000
open Go.RowKit Go.Shelf Go.Proofs.Ytgimdbflpdmlmaa.Ck

theorem has_any {w : World} {v : Value} {l : List ByteArray} (h : Strs w v l) (s : ByteArray) :
    Calls Try.prog 49 #[v, .string s] w fun e w' => e = .returned (.bool (decide (s ∈ l))) ∧ w' = w := by
  obtain ⟨a, cap, rfl, k1, k2⟩ := h.len
  unfold maxLen at k2
  have H := Keep.mk h
  clear h
  have HQ : Keep (∀ b : Bool, (b = true ↔ s ∈ l) → b = decide (s ∈ l)) := ⟨fun b hb => by rw [Bool.eq_iff_iff, decide_eq_true_iff]; exact hb⟩
  generalize hq : decide (s ∈ l) = q at *
  clear hq
  go_enter Try.func49, Try.ntmps49
  go_wp2_with fail
  go_loop [9] (fun i => ∃ k : Nat, k ≤ l.length ∧ i = .int .i64 k ∧ Keep (∀ j x, j < k → l[j]? = some x → x ≠ s)) (fun i => l.length - (intOf i).toNat)
  case atStart => exact ⟨0, Nat.zero_le _, rfl, ⟨fun j x h => absurd h (Nat.not_lt_zero j)⟩⟩
  case round =>
    obtain ⟨k, hk, rfl, HNo⟩ := hrel
    by_cases hlt : k < l.length
    · have k0 : (0 : Int) ≤ k := by omega
      have k1' : (k : Int) < l.length := by omega
      obtain ⟨x, hxk⟩ : ∃ x, l[k]? = some x := ⟨_, List.getElem?_eq_getElem hlt⟩
      obtain ⟨b, o, cap', hv, hb, hc0⟩ := H.out.get hxk
      simp only [Value.slice.injEq, true_and] at hv
      obtain ⟨rfl, rfl⟩ := hv
      have HX := Keep.mk hxk
      clear hxk
      by_cases hxs : x = s
      · have q1 : (x.toList == s.toList) = true := by rw [toList_beq, decide_eq_true hxs]
        have HT := Keep.mk (HQ.out true (iff_of_true rfl (by rw [← hxs]; exact List.mem_of_getElem? HX.out)))
        clear hxs
        go_wp2_with fail
        go_ret
        exact ⟨by rw [← HT.out]; rfl, rfl⟩
      · have q1 : (x.toList == s.toList) = false := by rw [toList_beq, decide_eq_false hxs]
        have HN := Keep.mk hxs
        clear hxs
        go_wp2_with fail
        go_round
        case rel => exact ⟨k + 1, by omega, by go_num, ⟨fun j y hj hy => by
          by_cases hjk : j < k
          · exact HNo.out j y hjk hy
          · obtain rfl : j = k := by omega
            rw [HX.out] at hy
            cases hy
            exact HN.out⟩⟩
        case measure => simp [intOf]; omega
    · obtain rfl : k = l.length := by omega
      have HT := Keep.mk (HQ.out false (iff_of_false (by simp) (fun hm => by
        obtain ⟨j, hj⟩ := List.getElem?_of_mem hm
        exact HNo.out j s (List.getElem?_eq_some_iff.1 hj).1 hj rfl)))
      go_wp2_with fail
      go_ret
      exact ⟨by rw [← HT.out]; rfl, rfl⟩
def binOps : List BA := [sOr, sAnd, sEq, sNe, sLt, sGt, sLe, sGe, sXor, sAdd, sSub, sMul, sDiv, sMod]
theorem binary_any (op : ByteArray) (w : World) : Calls Try.prog 79 #[.string op] w fun e w' => e = .returned (.int .i64 (if op ∈ binOps then 1 else 0)) ∧ Below w.heap.size w w' := by
  go_enter Try.func79, Try.ntmps79
  have hm : Strs (w.alloc (.cells (strCells binOps).toArray 9)) (.slice (some ⟨w.heap.size, 0, none⟩) 14 14) binOps := Strs.made w binOps 9 (by decide)
  have HM := Keep.mk hm
  have HB := Keep.mk (show Below w.heap.size w (w.alloc (.cells (strCells binOps).toArray 9)) from (Below.refl _ _).alloc (Nat.le_refl _) _)
  clear hm
  by_cases h : op ∈ binOps
  · have HH := Keep.mk (has_any HM.out op)
    rw [decide_eq_true h] at HH
    rw [if_pos h]
    clear h
    go_wp2_with fail
    refine HH.out.mono ?_
    rintro _ w2 ⟨rfl, rfl⟩
    go_wp2_with fail
    go_ret
    exact ⟨rfl, HB.out⟩
  · have HH := Keep.mk (has_any HM.out op)
    rw [decide_eq_false h] at HH
    rw [if_neg h]
    clear h
    go_wp2_with fail
    refine HH.out.mono ?_
    rintro _ w2 ⟨rfl, rfl⟩
    go_wp2_with fail
    go_ret
    exact ⟨rfl, HB.out⟩

def shapeB (op : BA) (n : Nat) : Bool := decide (operands op = -1) || decide (operands op = (n : Int))
theorem operands_bin {op : BA} (h : op ∈ binOps) : operands op = 2 := by
  simp only [binOps, List.mem_cons, List.not_mem_nil, or_false] at h
  rcases h with rfl | rfl | rfl | rfl | rfl | rfl | rfl | rfl | rfl | rfl | rfl | rfl | rfl | rfl <;> decide +kernel
theorem operands_none {op : BA} (h : op ∉ binOps) (h1 : op ≠ sNum) (h2 : op ≠ sVar) (h3 : op ≠ sElem) (h4 : op ≠ sNeg) (h5 : op ≠ sNot) (h6 : op ≠ sCall) : operands op = -2 := by
  simp only [binOps, List.mem_cons, List.not_mem_nil, or_false, not_or] at h
  obtain ⟨a1, a2, a3, a4, a5, a6, a7, a8, a9, a10, a11, a12, a13, a14⟩ := h
  unfold operands opsTab
  simp only [tabLook, if_neg h1, if_neg h2, if_neg h3, if_neg h4, if_neg h5, if_neg h6, if_neg a1, if_neg a2, if_neg a3, if_neg a4, if_neg a5, if_neg a6, if_neg a7, if_neg a8, if_neg a9, if_neg a10, if_neg a11, if_neg a12, if_neg a13, if_neg a14]
theorem shapeB_of {op : BA} {m : Int} (h : operands op = m) (n : Nat) : shapeB op n = (decide (m = -1) || decide (m = (n : Int))) := by unfold shapeB; rw [h]
theorem eq_dec (n : Nat) (m : Int) (h : 0 ≤ m) : ((n : Int) == m) = (decide (m = -1) || decide (m = (n : Int))) := by
  rw [Bool.eq_iff_iff]; simp; omega
set_option maxHeartbeats 4000000 in
theorem shape_any {w : World} (op : ByteArray) (num : Int) (name : ByteArray) (a : Option Addr) (n c : Nat) (hn : n ≤ maxLen) :
    Calls Try.prog 66 #[.agg #[.string op, .int .u32 num, .string name, .slice a n c]] w fun e w' => e = .returned (.bool (shapeB op n)) ∧ Below w.heap.size w w' := by
  unfold maxLen at hn
  go_enter Try.func66, Try.ntmps66
  have HBE := Keep.mk (show Below w.heap.size w (w.alloc (.cells #[.string op, .int .u32 num, .string name, .slice a n c] 42)) from (Below.refl _ _).alloc (Nat.le_refl _) _)
  by_cases g1 : op = sNum
  · have f1 : (op.toList == [110, 117, 109]) = true := by rw [eqs op (k := sNum) (by decide +kernel), decide_eq_true g1]
    rw [shapeB_of (m := 0) (by rw [g1]; decide +kernel)]
    clear g1
    go_wp2_with fail
    go_ret
    exact ⟨congrArg (fun b => Ending.returned (.bool b)) (eq_dec n 0 (by decide)), HBE.out⟩
  have f1 : (op.toList == [110, 117, 109]) = false := by rw [eqs op (k := sNum) (by decide +kernel), decide_eq_false g1]
  by_cases g2 : op = sVar
  · have f2 : (op.toList == [118, 97, 114]) = true := by rw [eqs op (k := sVar) (by decide +kernel), decide_eq_true g2]
    rw [shapeB_of (m := 0) (by rw [g2]; decide +kernel)]
    clear g1 g2
    go_wp2_with fail
    go_ret
    exact ⟨congrArg (fun b => Ending.returned (.bool b)) (eq_dec n 0 (by decide)), HBE.out⟩
  have f2 : (op.toList == [118, 97, 114]) = false := by rw [eqs op (k := sVar) (by decide +kernel), decide_eq_false g2]
  by_cases g3 : op = sElem
  · have f3 : (op.toList == [101, 108, 101, 109]) = true := by rw [eqs op (k := sElem) (by decide +kernel), decide_eq_true g3]
    rw [shapeB_of (m := 1) (by rw [g3]; decide +kernel)]
    clear g1 g2 g3
    go_wp2_with fail
    go_ret
    exact ⟨congrArg (fun b => Ending.returned (.bool b)) (eq_dec n 1 (by decide)), HBE.out⟩
  have f3 : (op.toList == [101, 108, 101, 109]) = false := by rw [eqs op (k := sElem) (by decide +kernel), decide_eq_false g3]
  by_cases g4 : op = sNeg
  · have f4 : (op.toList == [110, 101, 103]) = true := by rw [eqs op (k := sNeg) (by decide +kernel), decide_eq_true g4]
    rw [shapeB_of (m := 1) (by rw [g4]; decide +kernel)]
    clear g1 g2 g3 g4
    go_wp2_with fail
    go_ret
    exact ⟨congrArg (fun b => Ending.returned (.bool b)) (eq_dec n 1 (by decide)), HBE.out⟩
  have f4 : (op.toList == [110, 101, 103]) = false := by rw [eqs op (k := sNeg) (by decide +kernel), decide_eq_false g4]
  by_cases g5 : op = sNot
  · have f5 : (op.toList == [110, 111, 116]) = true := by rw [eqs op (k := sNot) (by decide +kernel), decide_eq_true g5]
    rw [shapeB_of (m := 1) (by rw [g5]; decide +kernel)]
    clear g1 g2 g3 g4 g5
    go_wp2_with fail
    go_ret
    exact ⟨congrArg (fun b => Ending.returned (.bool b)) (eq_dec n 1 (by decide)), HBE.out⟩
  have f5 : (op.toList == [110, 111, 116]) = false := by rw [eqs op (k := sNot) (by decide +kernel), decide_eq_false g5]
  by_cases g6 : op = sCall
  · have f6 : (op.toList == [99, 97, 108, 108]) = true := by rw [eqs op (k := sCall) (by decide +kernel), decide_eq_true g6]
    rw [shapeB_of (m := -1) (by rw [g6]; decide +kernel)]
    clear g1 g2 g3 g4 g5 g6
    go_wp2_with fail
    go_ret
    exact ⟨by simp, HBE.out⟩
  have f6 : (op.toList == [99, 97, 108, 108]) = false := by rw [eqs op (k := sCall) (by decide +kernel), decide_eq_false g6]
  have hX := heap_alloc_new w (.cells #[.string op, .int .u32 num, .string name, .slice a n c] 42)
  have HX := Keep.mk hX
  have HBI := Keep.mk (binary_any op (w.alloc (.cells #[.string op, .int .u32 num, .string name, .slice a n c] 42)))
  clear hX
  by_cases g7 : op ∈ binOps
  · rw [shapeB_of (operands_bin g7)]
    rw [if_pos g7] at HBI
    clear g1 g2 g3 g4 g5 g6 g7
    go_wp2_with fail
    refine HBI.out.mono ?_
    rintro _ w2 ⟨rfl, hb2⟩
    have hX2 := (hb2.block w.heap.size (by simp)).trans HX.out
    have HB2 := Keep.mk (HBE.out.trans (hb2.mono HBE.out.size))
    have x3 : w2.cell? ⟨w.heap.size, 3, none⟩ = some (.slice a n c) := by simp [World.cell?, hX2]
    have xl : w.heap.size < w2.heap.size := (Array.getElem?_eq_some_iff.1 hX2).1
    clear hb2 hX2
    by_cases h2 : n = 2
    · subst h2
      go_wp2_with fail
      go_ret
      exact ⟨by simp, HB2.out⟩
    · have q2 : ((n : Int) == 2) = false := by rw [beq_eq_false_iff_ne]; omega
      have q3 : decide ((2 : Int) = (n : Int)) = false := decide_eq_false (by omega)
      clear h2
      go_wp2_with fail
      go_ret
      exact ⟨by rw [q3]; rfl, HB2.out⟩
  · rw [shapeB_of (operands_none g7 g1 g2 g3 g4 g5 g6)]
    rw [if_neg g7] at HBI
    clear g1 g2 g3 g4 g5 g6 g7
    go_wp2_with fail
    refine HBI.out.mono ?_
    rintro _ w2 ⟨rfl, hb2⟩
    have HB2 := Keep.mk (HBE.out.trans (hb2.mono HBE.out.size))
    have q3 : decide ((-2 : Int) = (n : Int)) = false := decide_eq_false (by omega)
    clear hb2
    go_wp2_with fail
    go_ret
    exact ⟨by rw [q3]; rfl, HB2.out⟩

/-- What the reference says of a check. -/
def pr {α : Type} (r : Res α) : Viol := match r with | .bad v => v | .ok _ => (⟨#[]⟩, 0)
def probV (v : Viol) : Value := .agg #[.string v.1, .int .i64 v.2]
structure ScAt (w : World) (s1 s2 s3 s4 s5 : Value) (c : Cx) (fu : List Fu) (later : List BA) : Prop where
  own : Strs w s1 c.own
  vars : Strs w s2 c.vars
  arrays : Strs w s3 c.arrays
  funcs : FnsAt w s4 fu
  lat : Strs w s5 later
  glob : ∀ x, x ∈ c.globals ↔ x ∈ c.vars ∨ x ∈ c.arrays ∨ x ∈ later
  fs : ∀ x, (lookF x c.funcs).map Sm.params = (fu.find? (fun f => decide (f.name = x))).map (fun f => f.params.length)
def scV (c : Cx) (s1 s2 s3 s4 s5 : Value) : Value := .agg #[.string c.name, s1, s2, s3, s4, s5]
theorem ScAt.below {w w' : World} {s1 s2 s3 s4 s5 : Value} {c : Cx} {fu : List Fu} {later : List BA} (h : ScAt w s1 s2 s3 s4 s5 c fu later) (hb : Below w.heap.size w w') : ScAt w' s1 s2 s3 s4 s5 c fu later :=
  ⟨h.own.below hb (Nat.le_refl _), h.vars.below hb (Nat.le_refl _), h.arrays.below hb (Nat.le_refl _), h.funcs.below hb (Nat.le_refl _), h.lat.below hb (Nat.le_refl _), h.glob, h.fs⟩
theorem ScAt.slices {w : World} {s1 s2 s3 s4 s5 : Value} {c : Cx} {fu : List Fu} {later : List BA} (h : ScAt w s1 s2 s3 s4 s5 c fu later) : (∃ a k, s1 = .slice a c.own.length k) ∧ (∃ a k, s2 = .slice a c.vars.length k) ∧ (∃ a k, s3 = .slice a c.arrays.length k) ∧ (∃ a k, s4 = .slice a fu.length k ∧ fu.length ≤ k ∧ k ≤ maxLen) ∧ ∃ a k, s5 = .slice a later.length k := by
  obtain ⟨a1, k1, e1, _⟩ := h.own
  obtain ⟨a2, k2, e2, _⟩ := h.vars
  obtain ⟨a3, k3, e3, _⟩ := h.arrays
  obtain ⟨a4, k4, e4, g1, g2, _⟩ := h.funcs
  obtain ⟨a5, k5, e5, _⟩ := h.lat
  exact ⟨⟨a1, k1, e1⟩, ⟨a2, k2, e2⟩, ⟨a3, k3, e3⟩, ⟨a4, k4, e4, g1, g2⟩, a5, k5, e5⟩
theorem find_first {fu : List Fu} {p : Fu → Bool} : ∀ {i : Nat} {f : Fu}, fu[i]? = some f → p f = true → (∀ j g, j < i → fu[j]? = some g → p g = false) → fu.find? p = some f := by
  induction fu with
  | nil => intro i f h; simp at h
  | cons x l ih =>
    intro i f h hp hn
    cases i with
    | zero => simp at h; subst h; rw [List.find?_cons, hp]
    | succ i =>
      rw [List.find?_cons, hn 0 x (by omega) rfl]
      exact ih (by simpa using h) hp (fun j g hj hg => hn (j + 1) g (by omega) (by simpa using hg))
/-- The first function of the name, or none. -/
def FnAt (fu : List Fu) (name : BA) (i : Int) : Prop := (∃ (j : Nat) (f : Fu), i = j ∧ fu[j]? = some f ∧ fu.find? (fun f => decide (f.name = name)) = some f) ∨ (i = -1 ∧ fu.find? (fun f => decide (f.name = name)) = none)
set_option maxHeartbeats 4000000 in
theorem rfunction_any {w : World} {s1 s2 s3 s4 s5 : Value} {c : Cx} {fu : List Fu} {later : List BA} (h : ScAt w s1 s2 s3 s4 s5 c fu later) (name : ByteArray) :
    Calls Try.prog 80 #[scV c s1 s2 s3 s4 s5, .string name] w fun e w' => ∃ i, e = .returned (.int .i64 i) ∧ FnAt fu name i ∧ Below w.heap.size w w' := by
  obtain ⟨⟨a1, c1, rfl⟩, ⟨a2, c2, rfl⟩, ⟨a3, c3, rfl⟩, ⟨a4, c4, rfl, k1, k2⟩, a5, c5, rfl⟩ := h.slices
  unfold maxLen at k2
  have H := Keep.mk h.funcs
  unfold scV
  clear h
  go_enter Try.func80, Try.ntmps80
  have HBE := Keep.mk (show Below w.heap.size w (w.alloc (.cells #[.string c.name, .slice a1 c.own.length c1, .slice a2 c.vars.length c2, .slice a3 c.arrays.length c3, .slice a4 fu.length c4, .slice a5 later.length c5] 83)) from (Below.refl _ _).alloc (Nat.le_refl _) _)
  go_wp2_with fail
  go_loopw [10] (fun i wr => ∃ k : Nat, k ≤ fu.length ∧ i = .int .i64 k ∧ Keep (∀ j g, j < k → fu[j]? = some g → g.name ≠ name) ∧ Keep (Below w.heap.size w wr)) (fun i _ => fu.length - (intOf i).toNat)
  case atStart => exact ⟨0, Nat.zero_le _, rfl, ⟨fun j g h => absurd h (Nat.not_lt_zero j)⟩, HBE⟩
  case round =>
    obtain ⟨k, hk, rfl, HNo, HBr⟩ := hrel
    clear HBE
    by_cases hlt : k < fu.length
    · have k0 : (0 : Int) ≤ k := by omega
      have k1' : (k : Int) < fu.length := by omega
      obtain ⟨f, hfk⟩ : ∃ f, fu[k]? = some f := ⟨_, List.getElem?_eq_getElem hlt⟩
      obtain ⟨b, o, cap, up, ul, ub, hv, hb, x0, x1, x2, x3, hS1, hS2, nb, hS3⟩ := H.out.get hfk
      simp only [Value.slice.injEq, true_and] at hv
      obtain ⟨rfl, rfl⟩ := hv
      have z0 := (HBr.out.cell (p := ⟨b, o + k * 4, none⟩) hb).trans x0
      have z1 := (HBr.out.cell (p := ⟨b, o + k * 4 + 1, none⟩) hb).trans x1
      have z2 := (HBr.out.cell (p := ⟨b, o + k * 4 + 2, none⟩) hb).trans x2
      have z3 := (HBr.out.cell (p := ⟨b, o + k * 4 + 3, none⟩) hb).trans x3
      have hbl : b < wr.heap.size := Nat.lt_of_lt_of_le hb HBr.out.size
      obtain ⟨b1, d1, rfl, _, _⟩ := hS1.len
      obtain ⟨b2, d2, rfl, _, _⟩ := hS2.len
      obtain ⟨b3, d3, rfl, _, _⟩ := hS3.len
      have HBz := Keep.mk (show Below w.heap.size w (wr.alloc (.cells #[.string f.name, .slice b1 f.params.length d1, .slice b2 f.locals.length d2, .slice b3 f.body.length d3] 36)) from HBr.out.alloc HBr.out.size _)
      have HX := Keep.mk hfk
      clear x0 x1 x2 x3 hS1 hS2 hS3 hfk
      by_cases hn : f.name = name
      · have q1 : (f.name.toList == name.toList) = true := by rw [toList_beq, decide_eq_true hn]
        have HF := Keep.mk (find_first (p := fun f => decide (f.name = name)) HX.out (decide_eq_true hn) (fun j g hj hg => decide_eq_false (HNo.out j g hj hg)))
        clear hn
        go_wp2_with fail
        go_ret
        exact ⟨_, rfl, .inl ⟨k, f, rfl, HX.out, HF.out⟩, HBz.out⟩
      · have q1 : (f.name.toList == name.toList) = false := by rw [toList_beq, decide_eq_false hn]
        have HN := Keep.mk hn
        clear hn
        go_wp2_with fail
        go_roundw
        case rel => exact ⟨k + 1, by omega, by go_num, ⟨fun j y hj hy => by
          by_cases hjk : j < k
          · exact HNo.out j y hjk hy
          · obtain rfl : j = k := by omega
            rw [HX.out] at hy
            cases hy
            exact HN.out⟩, HBz⟩
        case measure => simp [intOf]; omega
    · obtain rfl : k = fu.length := by omega
      have HT : Keep (fu.find? (fun f => decide (f.name = name)) = none) := ⟨by
        rw [List.find?_eq_none]
        intro f hf
        obtain ⟨j, hj⟩ := List.getElem?_of_mem hf
        simpa using HNo.out j f (List.getElem?_eq_some_iff.1 hj).1 hj⟩
      go_wp2_with fail
      go_ret
      exact ⟨_, rfl, .inr ⟨rfl, HT.out⟩, HBr.out⟩
end Go.Proofs.Ytgimdbflpdmlmaa
