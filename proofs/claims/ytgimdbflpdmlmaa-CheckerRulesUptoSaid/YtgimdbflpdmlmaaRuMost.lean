/- The reference's most. Needs in plain Lean. No condition. -/
import Derived.Test.YtgimdbflpdmlmaaCkExpr
import Derived.Test.YtgimdbflpdmlmaaCkValid
import Derived.Test.YtgimdbflpdmlmaaRuExpr
namespace Go.Proofs.Ytgimdbflpdmlmaa
set_option maxRecDepth 100000
open Go.RowKit Go.Shelf Go.Proofs.Ytgimdbflpdmlmaa.Ck

theorem num_get {w : World} {v : Value} {l : List Nat} (h : Slc w 1 v l.length (numCells l)) {i : Nat} {x : Nat} (hi : l[i]? = some x) : ∃ b o cap, v = .slice (some ⟨b, o, none⟩) l.length cap ∧ b < w.heap.size ∧ w.cell? ⟨b, o + i, none⟩ = some (.int .i64 (x : Int)) := by
  obtain ⟨a, cap, rfl, h1, h2, h3, h4⟩ := h
  have hlt := (List.getElem?_eq_some_iff.1 hi).1
  rcases h4 with h4 | ⟨b, o, rfl, hb, hc⟩
  · omega
  · exact ⟨b, o, cap, rfl, hb, hc i _ (by unfold numCells; rw [List.getElem?_map, hi]; rfl)⟩
set_option maxHeartbeats 4000000 in
theorem most_any {w : World} {v : Value} (l : List Nat) (h : Slc w 1 v l.length (numCells l)) (hl : l ≠ []) :
    Calls Try.prog 54 #[v] w fun e w' => (∃ m : Nat, e = .returned (.int .i64 (m : Int)) ∧ m ∈ l ∧ ∀ y ∈ l, y ≤ m) ∧ w' = w := by
  have H := Keep.mk h
  obtain ⟨x, r, rfl⟩ : ∃ x r, l = x :: r := by cases l with | nil => exact absurd rfl hl | cons x r => exact ⟨x, r, rfl⟩
  obtain ⟨b, o, cap, rfl, hb, hc0⟩ := num_get h (i := 0) (x := x) rfl
  rw [Nat.add_zero] at hc0
  have hcc : cap ≤ maxLen ∧ (x :: r).length ≤ cap := by
    obtain ⟨_, _, hv, h1, h2, _⟩ := id h
    simp only [Value.slice.injEq, true_and] at hv
    obtain ⟨_, rfl⟩ := hv
    exact ⟨h2, h1⟩
  obtain ⟨hcap, hle⟩ := hcc
  unfold maxLen at hcap
  have hpos : 0 < (x :: r).length := by simp
  have hne : x :: r ≠ [] := by simp
  have HXR : Keep ((x :: r)[0]? = some x) := ⟨rfl⟩
  clear h hl
  generalize x :: r = l at *
  go_enter Try.func54, Try.ntmps54
  have l0 : (0 : Int) < (l.length : Int) := by omega
  go_wp2_with fail
  clear l0 hc0 hne
  go_loop [11, 3] (fun i s => ∃ k m : Nat, k ≤ l.length ∧ i = .int .i64 k ∧ s = .int .i64 m ∧ Keep (m ∈ l ∧ ∀ j y, j < k → l[j]? = some y → y ≤ m)) (fun i _ => l.length - (intOf i).toNat)
  case atStart => exact ⟨0, x, Nat.zero_le _, rfl, rfl, ⟨List.mem_of_getElem? HXR.out, fun j y h => absurd h (Nat.not_lt_zero j)⟩⟩
  case round =>
    obtain ⟨k, m, hk, rfl, rfl, HM⟩ := hrel
    by_cases hlt : k < l.length
    · have k0 : (0 : Int) ≤ k := by omega
      have k1 : (k : Int) < l.length := by omega
      obtain ⟨y, hy⟩ : ∃ y, l[k]? = some y := ⟨_, List.getElem?_eq_getElem hlt⟩
      obtain ⟨b', o', cap', hv, hb', hc⟩ := num_get H.out hy
      simp only [Value.slice.injEq, true_and, Option.some.injEq, Addr.mk.injEq] at hv
      obtain ⟨⟨rfl, rfl, _⟩, _⟩ := hv
      have HY := Keep.mk hy
      clear hy
      by_cases hm : m < y
      · have f1 : (m : Int) < (y : Int) := by omega
        have HN : Keep (y ∈ l ∧ ∀ j z, j < k + 1 → l[j]? = some z → z ≤ y) := ⟨List.mem_of_getElem? HY.out, fun j z hj hz => by
          by_cases h : j < k
          · have := HM.out.2 j z h hz; omega
          · obtain rfl : j = k := by omega
            rw [HY.out] at hz; cases hz; omega⟩
        clear hm
        go_wp2_with fail
        go_round
        case rel => exact ⟨k + 1, y, by omega, by go_num, rfl, HN⟩
        case measure => simp [intOf]; omega
      · have f1 : ¬ (m : Int) < (y : Int) := by omega
        have HN : Keep (m ∈ l ∧ ∀ j z, j < k + 1 → l[j]? = some z → z ≤ m) := ⟨HM.out.1, fun j z hj hz => by
          by_cases h : j < k
          · exact HM.out.2 j z h hz
          · obtain rfl : j = k := by omega
            rw [HY.out] at hz; cases hz; omega⟩
        clear hm
        go_wp2_with fail
        go_round
        case rel => exact ⟨k + 1, m, by omega, by go_num, rfl, HN⟩
        case measure => simp [intOf]; omega
    · obtain rfl : k = l.length := by omega
      go_wp2_with fail
      go_ret
      exact ⟨⟨m, rfl, HM.out.1, fun y hy => by
        obtain ⟨j, hj⟩ := List.getElem?_of_mem hy
        exact HM.out.2 j y (List.getElem?_eq_some_iff.1 hj).1 hj⟩, rfl⟩
theorem most2_any {w : World} {vs : List Value} {v : Value} {a b : Nat} (h : Slc w 1 v 2 vs) (hv : vs = [.int .i64 (a : Int), .int .i64 (b : Int)]) : Calls Try.prog 54 #[v] w fun e w' => e = .returned (.int .i64 ((max a b : Nat) : Int)) ∧ w' = w := by
  subst hv
  refine (most_any [a, b] h (by simp)).mono fun e w' ⟨⟨m, he, hm, hy⟩, hw⟩ => ⟨?_, hw⟩
  have h1 := hy a (by simp)
  have h2 := hy b (by simp)
  simp only [List.mem_cons, List.not_mem_nil, or_false] at hm
  rw [he, show m = max a b by omega]
theorem most3_any {w : World} {vs : List Value} {v : Value} {a b c : Nat} (h : Slc w 1 v 3 vs) (hv : vs = [.int .i64 (a : Int), .int .i64 (b : Int), .int .i64 (c : Int)]) : Calls Try.prog 54 #[v] w fun e w' => e = .returned (.int .i64 ((max a (max b c) : Nat) : Int)) ∧ w' = w := by
  subst hv
  refine (most_any [a, b, c] h (by simp)).mono fun e w' ⟨⟨m, he, hm, hy⟩, hw⟩ => ⟨?_, hw⟩
  have h1 := hy a (by simp)
  have h2 := hy b (by simp)
  have h3 := hy c (by simp)
  simp only [List.mem_cons, List.not_mem_nil, or_false] at hm
  rw [he, show m = max a (max b c) by omega]
theorem most5_any {w : World} {vs : List Value} {v : Value} {a b c d e : Nat} (h : Slc w 1 v 5 vs) (hv : vs = [.int .i64 (a : Int), .int .i64 (b : Int), .int .i64 (c : Int), .int .i64 (d : Int), .int .i64 (e : Int)]) : Calls Try.prog 54 #[v] w fun x w' => x = .returned (.int .i64 ((max a (max b (max c (max d e))) : Nat) : Int)) ∧ w' = w := by
  subst hv
  refine (most_any [a, b, c, d, e] h (by simp)).mono fun x w' ⟨⟨m, he, hm, hy⟩, hw⟩ => ⟨?_, hw⟩
  have h1 := hy a (by simp)
  have h2 := hy b (by simp)
  have h3 := hy c (by simp)
  have h4 := hy d (by simp)
  have h5 := hy e (by simp)
  simp only [List.mem_cons, List.not_mem_nil, or_false] at hm
  rw [he, show m = max a (max b (max c (max d e))) by omega]
theorem needFrom_max : ∀ (l : List Nat) (k a b : Nat), needFrom k (max a b) l = max (needFrom k a l) b
  | [], k, a, b => rfl
  | x :: l, k, a, b => by
    rw [needFrom, needFrom, ← needFrom_max l (k + 1), show max (max a b) (k + x) = max (max a (k + x)) b by omega]
/-- The functions that may be called, their needs. -/
structure NdRel (c : Cx) (fu : List Fu) (nds : List Nat) : Prop where
  len : nds.length = fu.length
  is : ∀ name f, lookF name c.funcs = some f → ∃ (j : Nat) (g : Fu), fu[j]? = some g ∧ g.name = name ∧ nds[j]? = some f.need ∧ ∀ (i : Nat) (h : Fu), fu[i]? = some h → h.name = name → i = j
end Go.Proofs.Ytgimdbflpdmlmaa
