/- CheckerRemoval: whether a name is taken, in plain Lean; the names' lengths. No condition. -/
import Derived.Test.YtgimdbflpdmlmaaCkThree
import Derived.Lib.IndexMore
import Derived.Lib.Join
namespace Go.Proofs.Ytgimdbflpdmlmaa
set_option maxRecDepth 100000
open Go.RowKit Go.Shelf Go.Proofs.Ytgimdbflpdmlmaa.Ck

def sQ : ByteArray := mkS (List.replicate 24 113)
theorem isName_q : isName sQ = true := by decide +kernel
theorem contains_infix {s sub : List UInt8} (h : sub <:+: s) : Lib.contains s sub = true := by
  unfold Lib.contains
  rw [decide_eq_true_iff]
  rcases Lib.index_spec s sub with ⟨h0, hn⟩ | ⟨i, hi, _⟩
  · obtain ⟨a, b, rfl⟩ := h
    have := hn a.length (by simp)
    unfold Lib.occAt at this
    rw [List.append_assoc, List.drop_append_of_le_length (Nat.le_refl _), List.drop_length, List.nil_append] at this
    have h2 : sub.isPrefixOf (sub ++ b) = true := List.isPrefixOf_iff_prefix.2 (List.prefix_append _ _)
    rw [h2] at this
    cases this
  · rw [hi]; omega
theorem join_infix {xs : List (List UInt8)} {sep x : List UInt8} (h : x ∈ xs) : x <:+: Lib.join xs sep := by
  cases xs with
  | nil => cases h
  | cons y r =>
    rw [Lib.join_cons]
    rcases List.mem_cons.1 h with rfl | h
    · exact (List.prefix_append _ _).isInfix
    · refine List.IsInfix.trans ?_ (List.suffix_append _ _).isInfix
      unfold Lib.joinTail
      refine List.IsInfix.trans (List.suffix_append sep x).isInfix ?_
      exact List.infix_of_mem_flatten (List.mem_map_of_mem h)
def spaced (p : Pr) : List UInt8 := Lib.join ((scalarsL p).map (·.data.toList)) [32] ++ [32]
theorem not_taken {p : Pr} {x : BA} (h : Lib.contains (spaced p) x.data.toList = false) : x ∉ p.vars ∧ ∀ f ∈ p.funcs, x ∉ f.params ++ f.locals := by
  have key : ∀ y ∈ scalarsL p, ¬ x.data.toList <:+: y.data.toList := fun y hy hi => by
    have : Lib.contains (spaced p) x.data.toList = true := contains_infix (List.IsInfix.trans (hi.trans (join_infix (xs := (scalarsL p).map (·.data.toList)) (sep := [32]) (List.mem_map_of_mem hy))) (show Lib.join ((scalarsL p).map (·.data.toList)) [32] <:+: Lib.join ((scalarsL p).map (·.data.toList)) [32] ++ [32] from (List.prefix_append _ _).isInfix))
    rw [h] at this
    cases this
  refine ⟨fun hx => key x (List.mem_append_left _ hx) (List.infix_refl _), fun f hf hx => key (dotB f.name x) (List.mem_append_right _ (List.mem_flatMap.2 ⟨f, hf, List.mem_map_of_mem hx⟩)) ?_⟩
  rw [dotB_data]
  exact ((List.suffix_cons _ _).trans (List.suffix_append _ _)).isInfix
theorem isName_size {s : BA} (h : isName s = true) : s.size ≤ 24 := by
  unfold isName at h
  simp only [Bool.and_eq_true, decide_eq_true_eq] at h
  exact h.1.1.1.1
theorem join_small {xs : List (List UInt8)} (h : ∀ x ∈ xs, x.length ≤ 50) : (Lib.join xs [32]).length ≤ 51 * xs.length := by
  have hl : ∀ r : List (List UInt8), (∀ x ∈ r, x.length ≤ 50) → Lib.lens r ≤ 50 * r.length := fun r => by
    induction r with
    | nil => simp [Lib.lens]
    | cons y r ih =>
      intro h
      have := ih (fun x hx => h x (List.mem_cons_of_mem _ hx))
      have := h y (List.mem_cons_self ..)
      simp only [Lib.lens, List.map_cons, List.sum_cons, List.length_cons] at *
      omega
  cases xs with
  | nil => simp [Lib.join_nil]
  | cons y r =>
    have := hl (y :: r) h
    rw [Lib.join_cons, List.length_append, Lib.joinTail_length]
    simp only [Lib.lens, List.map_cons, List.sum_cons, List.length_cons, List.length_nil] at *
    omega
theorem scalars_small {p : Pr} (hp : programC p = .ok ()) : ∀ x ∈ (scalarsL p).map (·.data.toList), x.length ≤ 50 := by
  obtain ⟨h1, _, _, e, hF, _⟩ := program_okay.1 hp
  intro x hx
  obtain ⟨y, hy, rfl⟩ := List.mem_map.1 hx
  rcases List.mem_append.1 hy with hy | hy
  · have := isName_size (h1 y (by simp [hy]))
    simp only [Array.length_toList]
    show y.size ≤ 50
    omega
  · obtain ⟨f, hf, hy⟩ := List.mem_flatMap.1 hy
    obtain ⟨z, hz, rfl⟩ := List.mem_map.1 hy
    have h2 := isName_size ((functions_own hF f hf).1 z hz)
    have h3 := isName_size (h1 f.name (by simp; exact .inr (.inr ⟨f, hf, rfl⟩)))
    rw [dotB_data, List.length_append, List.length_cons]
    have e1 : f.name.data.toList.length = f.name.size := Array.length_toList
    have e2 : z.data.toList.length = z.size := Array.length_toList
    omega
end Go.Proofs.Ytgimdbflpdmlmaa
