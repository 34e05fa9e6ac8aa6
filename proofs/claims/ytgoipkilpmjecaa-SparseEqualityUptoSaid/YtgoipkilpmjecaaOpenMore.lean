/- A slice that is a field of a struct, opened; so a list of segments. No condition. -/
import Derived.Test.YtgoipkilpmjecaaSegOpen
namespace Go.Proofs.Ytgoipkilpmjecaa
open Go.RowKit Go.Shelf Go.Proofs.Ytgoipkilpmjecaa.Sparse Go.ChangeShapes Go.WideShapes Go.ChangeAt

theorem open_slice_cells1 {H : Type} {enc : TypeId × Value → H} {P : Program} {W : World} {t e : TypeId} {c : Nat} {v : Value} {d : DataW H} {ps : List MemPlace} {fuel0 : Nat} (ht : P.underlying t = some (.slice e)) (hc : P.cellsOf e = c) (h1 : 1 ≤ c)
    (hf : DataW.trod enc P W 0 (fun _ => true) true fuel0 t [v] = some (d, ps)) :
    ∃ (a : Option Addr) (n cap : Nat) (D : Nat → DataW H) (sp : List (DataW H)), v = .slice a n cap ∧ n ≤ cap ∧ cap ≤ maxLen ∧ ((d = .nil ∧ n = 0) ∨ d = .slice ((List.range n).map D) sp) ∧
      ∀ i, i < n → ∃ b o cs fuel pl, a = some ⟨b, o, none⟩ ∧ b < W.heap.size ∧ cs.length = c ∧ (∀ j, j < c → W.cell? ⟨b, o + i * c + j, none⟩ = cs[j]?) ∧ DataW.trod enc P W 0 (fun _ => true) true fuel e cs = some (D i, pl) := by
  rcases Go.Deep.open_slice ht hf with ⟨hcs, hx⟩ | ⟨a, len, cap, m, n, D, Pl, hcs, hb, hl, hm, hmm, hx, hall⟩
  · simp only [List.cons.injEq, and_true] at hcs
    subst hcs
    simp only [Prod.mk.injEq] at hx
    exact ⟨none, 0, 0, fun _ => .nil, [], rfl, Nat.le_refl _, by decide, .inl ⟨hx.1, rfl⟩, fun i hi => absurd hi (Nat.not_lt_zero _)⟩
  · simp only [List.cons.injEq, and_true] at hcs
    subst hcs
    simp only [Prod.mk.injEq] at hx
    refine ⟨some a, len, cap, D, _, rfl, hl, hm, .inr hx.1, fun i hi => ?_⟩
    have hspot : a.spot = none := by
      obtain ⟨cs, h2, _⟩ := hall 0 (by rw [hmm]; simp; omega)
      rw [hc] at h2
      obtain ⟨_, hlen, hget⟩ := World.cells?_some h2
      have h0 := hget 0 (by omega)
      obtain ⟨u, hu⟩ : ∃ u, cs[0]? = some u := ⟨_, List.getElem?_eq_getElem (by omega)⟩
      rw [hu] at h0
      have := addr_spot h0
      simpa [Addr.add] using this
    obtain ⟨b, o, sp⟩ := a
    simp only at hspot
    subst hspot
    obtain ⟨cs, h2, h3⟩ := hall i (by rw [hmm]; simp; omega)
    rw [hc] at h2
    obtain ⟨_, hlen, hget⟩ := World.cells?_some h2
    simp only [Addr.add_lit] at hget
    obtain ⟨u, hu⟩ : ∃ u, cs[0]? = some u := ⟨_, List.getElem?_eq_getElem (by omega)⟩
    exact ⟨b, o, cs, n, Pl i, rfl, cell_lt ((hget 0 (by omega)).trans hu), hlen, hget, h3⟩
theorem open_segs1 {H : Type} {enc : TypeId × Value → H} {W : World} {v : Value} {d : DataW H} {ps : List MemPlace} {fuel0 : Nat}
    (hd : DataW.trod enc Try.prog W 0 (fun _ => true) true fuel0 27 [v] = some (d, ps)) (hb : ∀ n ∈ d.weights Try.prog 27, n ≤ reachBytes) :
    ∃ l : List Seg, Segs W v l ∧ (∀ s ∈ l, s.2.length ≤ reachBytes) ∧ ((d = .nil ∧ l = []) ∨ ∃ sp, d = .slice (l.map fun s => .agg [.lit (.int .i64 s.1), .lit (.string s.2)]) sp) := by
  obtain ⟨a, n, cap, D, sp, rfl, h1, h2, h3, h4⟩ := open_slice_cells1 Try.underlying27 (show Try.prog.cellsOf 45 = 2 by kernel_rfl) (by omega) hd
  obtain ⟨l, hl, hp⟩ := choose_list (p := fun i (s : Seg) => (∃ b o, a = some ⟨b, o, none⟩ ∧ b < W.heap.size ∧ W.cell? ⟨b, o + i * 2, none⟩ = some (.int .i64 s.1) ∧ W.cell? ⟨b, o + i * 2 + 1, none⟩ = some (.string (mkS s.2))) ∧
      D i = .agg [.lit (.int .i64 s.1), .lit (.string s.2)]) n (fun i hi => by
    obtain ⟨b, o, cs, fuel, pl, rfl, hlt, hlen, hget, ht⟩ := h4 i hi
    obtain ⟨y0, y1, m, hx, _, e0, e1⟩ := trod_struct2 Try.underlying45 ht
    obtain ⟨c0, c1, rfl⟩ : ∃ c0 c1, cs = [c0, c1] := by
      match cs, hlen with
      | [c0, c1], _ => exact ⟨c0, c1, rfl⟩
    have e0' : DataW.trod enc Try.prog W 0 (fun _ => true) true m 3 [c0] = some y0 := e0
    have e1' : DataW.trod enc Try.prog W 0 (fun _ => true) true m 9 [c1] = some y1 := e1
    obtain ⟨k, f0, rfl, _⟩ := DataW.trod_int Try.underlying3 e0'
    obtain ⟨s, f1, rfl, _⟩ := DataW.trod_string Try.underlying9 e1'
    simp only [List.cons.injEq, and_true] at f0 f1
    subst f0; subst f1
    have hg0 := hget 0 (by omega)
    have hg1 := hget 1 (by omega)
    simp only [Prod.mk.injEq] at hx
    exact ⟨(k, s.data.toList), ⟨b, o, rfl, hlt, by simpa using hg0, by rw [mkS_data]; simpa using hg1⟩, hx.1⟩)
  subst hl
  have hD : (List.range l.length).map D = l.map fun s => .agg [.lit (.int .i64 s.1), .lit (.string s.2)] := by
    apply List.ext_getElem?
    intro i
    by_cases hi : i < l.length
    · have := (hp i l[i] (List.getElem?_eq_getElem hi)).2
      simp [List.getElem?_map, List.getElem?_range hi, List.getElem?_eq_getElem hi, this]
    · rw [List.getElem?_eq_none (by simp; omega), List.getElem?_eq_none (by simp; omega)]
  rw [hD] at h3
  refine ⟨l, ⟨a, cap, rfl, h1, h2, ?_⟩, fun s hs => ?_, h3.imp (fun ⟨x, y⟩ => ⟨x, List.eq_nil_of_length_eq_zero y⟩) (fun x => ⟨sp, x⟩)⟩
  · by_cases h0 : l = []
    · exact .inl h0
    · have hpos := List.length_pos_iff.2 h0
      obtain ⟨⟨b, o, rfl, hb1, _⟩, _⟩ := hp 0 l[0] (List.getElem?_eq_getElem hpos)
      refine .inr ⟨b, o, rfl, hb1, fun i s hs => ?_⟩
      obtain ⟨⟨b', o', e, _, c1, c2⟩, _⟩ := hp i s hs
      simp only [Option.some.injEq, Addr.mk.injEq] at e
      obtain ⟨rfl, rfl, _⟩ := e
      exact ⟨c1, c2⟩
  · rcases h3 with ⟨_, h0⟩ | rfl
    · rw [List.eq_nil_of_length_eq_zero h0] at hs; cases hs
    · exact hb _ (weights_slice_mem Try.underlying27 (x := .agg [.lit (.int .i64 s.1), .lit (.string s.2)]) (List.mem_map.2 ⟨s, hs, rfl⟩) (by simp [DataW.weights, DataW.weightsEach, Try.underlying45]))
end Go.Proofs.Ytgoipkilpmjecaa
