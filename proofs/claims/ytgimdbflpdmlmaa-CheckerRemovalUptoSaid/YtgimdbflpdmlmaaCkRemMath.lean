/- CheckerRemoval: bounds of the two programs that it makes; a slice of statements without its last. No condition. -/
import Derived.Test.YtgimdbflpdmlmaaCkTaken
namespace Go.Proofs.Ytgimdbflpdmlmaa
set_option maxRecDepth 100000
open Go.RowKit Go.Shelf Go.Proofs.Ytgimdbflpdmlmaa.Ck

theorem size_q : sQ.size = 24 := by decide +kernel
theorem fits_wider {p : Pr} (h : sizeP p ≤ 400) : Fits ⟨p.vars ++ [sQ], p.arrays, p.funcs⟩ := by
  have hf := fits_of_size h
  refine ⟨fun x hx => ?_, ?_⟩
  · rcases hx with hx | hx | hx
    · rcases List.mem_append.1 hx with hx | hx
      · exact hf.names x (.inl hx)
      · rw [List.mem_singleton.1 hx, size_q]; omega
    · exact hf.names x (.inr (.inl hx))
    · exact hf.names x (.inr (.inr hx))
  · have h1 : (p.funcs.map fun f => 4 + f.params.length + f.locals.length + 5 * nodesS f.body).sum ≤ 5 * (p.funcs.map fuSz).sum := by
      generalize p.funcs = l
      induction l with
      | nil => simp
      | cons f l ih =>
        simp only [List.map_cons, List.sum_cons]
        have := nodes_szS f.body
        have : fuSz f = 1 + f.name.size / 8 + f.params.length + f.locals.length + szS f.body + eighths (f.params ++ f.locals) := rfl
        omega
    unfold sizeP at h
    simp only [List.length_append, List.length_singleton]
    omega
theorem nodesS_le (a b : List St) : nodesS a ≤ nodesS (a ++ b) := by
  induction a with
  | nil => simp [nodesS]
  | cons s l ih => rw [List.cons_append, nodesS, nodesS]; omega
theorem fits_shorter {p : Pr} {l1 l2 : List Fu} {f f' : Fu} (h : Fits p) (hfs : p.funcs = l1 ++ f :: l2) (hl : FuLe f' f) : Fits ⟨p.vars, p.arrays, l1 ++ f' :: l2⟩ := by
  obtain ⟨lr, hb⟩ := hl.body
  refine ⟨fun x hx => h.names x ?_, ?_⟩
  · refine hx.imp id (Or.imp id ?_)
    rintro ⟨u, hu, hu'⟩
    rw [hfs]
    simp only [List.mem_append, List.mem_cons] at hu
    rcases hu with hu | rfl | hu
    · exact ⟨u, by simp [hu], hu'⟩
    · exact ⟨f, by simp, by rw [← hl.name, ← hl.params, ← hl.locals]; exact hu'⟩
    · exact ⟨u, by simp [hu], hu'⟩
  · have := h.total
    rw [hfs] at this
    simp only [List.map_append, List.map_cons, List.sum_append, List.sum_cons] at this ⊢
    have := nodesS_le f'.body lr
    rw [← hb] at this
    rw [hl.params, hl.locals]
    omega
theorem StsAt.drop {w : World} {n : Nat} {a : Option Addr} {c : Nat} {l : List St} (h : StsAt w n (.slice a l.length c) l) (m : Nat) (hm : m ≤ l.length) : StsAt w n (.slice a m c) (l.take m) := by
  cases n with
  | zero =>
    obtain ⟨rfl, a', cap, e, h1⟩ := h
    cases e
    have : m = 0 := by simpa using hm
    subst this
    exact ⟨rfl, a, c, rfl, h1⟩
  | succ n =>
    obtain ⟨a', cap, e, h1, h2, h3⟩ := h
    cases e
    have hl : (l.take m).length = m := by rw [List.length_take]; omega
    refine ⟨a, c, by rw [hl], by omega, h2, ?_⟩
    rcases h3 with rfl | ⟨b, o, rfl, hb, hc⟩
    · exact .inl (by simp)
    · refine .inr ⟨b, o, rfl, hb, fun i s hi => hc i s ?_⟩
      rw [List.getElem?_take] at hi
      split at hi
      · exact hi
      · cases hi
/-- The one in the middle. -/
theorem fu_one {l : List Fu} {i : Nat} (h : i < l.length) : ∃ l1 f l2, l = l1 ++ f :: l2 ∧ l1.length = i := by
  refine ⟨l.take i, l[i], l.drop (i + 1), ?_, by simp; omega⟩
  rw [← List.drop_eq_getElem_cons h, List.take_append_drop]
end Go.Proofs.Ytgimdbflpdmlmaa
