/- A slice that is a part of a datum, opened; so a list of strings. No condition. -/
import Derived.Test.YtomlknjpaielgaaOpenSlice
import Derived.Test.YtomlknjpaielgaaStrs
namespace Go.Proofs.Ytomlknjpaielgaa
set_option maxRecDepth 100000
open Go.RowKit Go.Shelf Go.ChangeShapes Go.WideShapes Go.ChangeAt

theorem open_slice_cells1 {H : Type} {enc : TypeId × Value → H} {P : Program} {W : World} {t e : TypeId} {c : Nat} {v : Value} {d : DataW H} {ps : List MemPlace} {fuel0 : Nat} (ht : P.underlying t = some (.slice e)) (hc : P.cellsOf e = c) (h1 : 1 ≤ c)
    (hf : DataW.trod enc P W 0 (fun _ => true) true fuel0 t [v] = some (d, ps)) :
    ∃ (a : Option Addr) (n cap : Nat) (D : Nat → DataW H) (sp : List (DataW H)), v = .slice a n cap ∧ n ≤ cap ∧ cap ≤ maxLen ∧ ((d = .nil ∧ n = 0) ∨ d = .slice ((List.range n).map D) sp) ∧
      ∀ i, i < n → ∃ b o cs fuel pl, a = some ⟨b, o, none⟩ ∧ b < W.heap.size ∧ cs.length = c ∧ (∀ j, j < c → W.cell? ⟨b, o + i * c + j, none⟩ = cs[j]?) ∧ DataW.trod enc P W 0 (fun _ => true) true fuel e cs = some (D i, pl) := by
  rcases Go.Deep.open_slice ht hf with ⟨hcs, hx⟩ | ⟨a, len, cap, m, n, D, Pl, hcs, hb, hl, hm, hmm, hx, hall⟩
  · simp only [List.cons.injEq, and_true] at hcs
    subst hcs
    simp only [Prod.mk.injEq] at hx
    exact ⟨none, 0, 0, fun _ => .nil, [], rfl, Nat.le_refl _, by decide, .inl ⟨hx.1, rfl⟩, fun i hi => absurd hi (Nat.not_lt_zero _)⟩
  · simp only [List.cons.injEq, and_true] at hcs
    subst hcs
    simp only [Prod.mk.injEq] at hx
    refine ⟨some a, len, cap, D, _, rfl, hl, hm, .inr hx.1, fun i hi => ?_⟩
    have hspot : a.spot = none := by
      obtain ⟨cs, h2, _⟩ := hall 0 (by rw [hmm]; simp; omega)
      rw [hc] at h2
      obtain ⟨_, hlen, hget⟩ := World.cells?_some h2
      have h0 := hget 0 (by omega)
      obtain ⟨u, hu⟩ : ∃ u, cs[0]? = some u := ⟨_, List.getElem?_eq_getElem (by omega)⟩
      rw [hu] at h0
      have := addr_spot h0
      simpa [Addr.add] using this
    obtain ⟨b, o, sp⟩ := a
    simp only at hspot
    subst hspot
    obtain ⟨cs, h2, h3⟩ := hall i (by rw [hmm]; simp; omega)
    rw [hc] at h2
    obtain ⟨_, hlen, hget⟩ := World.cells?_some h2
    simp only [Addr.add_lit] at hget
    obtain ⟨u, hu⟩ : ∃ u, cs[0]? = some u := ⟨_, List.getElem?_eq_getElem (by omega)⟩
    exact ⟨b, o, cs, n, Pl i, rfl, cell_lt ((hget 0 (by omega)).trans hu), hlen, hget, h3⟩
theorem pick_list {α : Type} {p : Nat → α → Prop} : ∀ n : Nat, (∀ i, i < n → ∃ x, p i x) → ∃ l : List α, l.length = n ∧ ∀ i x, l[i]? = some x → p i x
  | 0, _ => ⟨[], rfl, fun i x h => by simp at h⟩
  | n + 1, h => by
    obtain ⟨l, h1, h2⟩ := pick_list n (fun i hi => h i (by omega))
    obtain ⟨x, hx⟩ := h n (by omega)
    refine ⟨l ++ [x], by simp [h1], fun i y hy => ?_⟩
    by_cases hi : i < n
    · rw [List.getElem?_append_left (by omega)] at hy
      exact h2 i y hy
    · rw [List.getElem?_append_right (by omega)] at hy
      have := (List.getElem?_eq_some_iff.1 hy).1
      simp at this
      have hin : i = n := by omega
      subst hin
      rw [show i - l.length = 0 by omega] at hy
      simp at hy
      subst hy
      exact hx
theorem map_range {α β : Type} {l : List α} {D : Nat → β} {f : α → β} (h : ∀ i x, l[i]? = some x → D i = f x) : (List.range l.length).map D = l.map f := by
  apply List.ext_getElem?
  intro i
  by_cases hi : i < l.length
  · have := h i l[i] (List.getElem?_eq_getElem hi)
    simp [List.getElem?_map, List.getElem?_range hi, List.getElem?_eq_getElem hi, this]
  · rw [List.getElem?_eq_none (by simp; omega), List.getElem?_eq_none (by simp; omega)]
theorem weights_len {H : Type} {P : Program} {t e : TypeId} {l sp : List (DataW H)} (ht : P.underlying t = some (.slice e)) : (l.length + sp.length) * P.bytesOf e ∈ (DataW.slice l sp).weights P t := by
  simp only [DataW.weights, ht, List.mem_cons, true_or]
/-- A part of type []string, opened. -/
theorem open_strs1 {H : Type} {enc : TypeId × Value → H} {W : World} {v : Value} {d : DataW H} {ps : List MemPlace} {fuel0 : Nat}
    (hd : DataW.trod enc Try.prog W 0 (fun _ => true) true fuel0 22 [v] = some (d, ps)) (hb : ∀ n ∈ d.weights Try.prog 22, n ≤ reachBytes) :
    ∃ l : List ByteArray, Strs W v l ∧ (∀ s ∈ l, s.size ≤ reachBytes) ∧ l.length * 16 ≤ reachBytes ∧ ((d = .nil ∧ l = []) ∨ ∃ sp, d = .slice (l.map fun s => .lit (.string s.data.toList)) sp) := by
  obtain ⟨a, n, cap, D, sp, rfl, h1, h2, h3, h4⟩ := open_slice_cells1 Try.underlying22 (show Try.prog.cellsOf 9 = 1 by kernel_rfl) (by omega) hd
  obtain ⟨l, hl, hp⟩ := pick_list (p := fun i (s : ByteArray) => (∃ b o, a = some ⟨b, o, none⟩ ∧ b < W.heap.size ∧ W.cell? ⟨b, o + i, none⟩ = some (.string s)) ∧ D i = .lit (.string s.data.toList)) n (fun i hi => by
    obtain ⟨b, o, cs, fuel, pl, rfl, hlt, hlen, hget, ht⟩ := h4 i hi
    obtain ⟨c0, rfl⟩ : ∃ c0, cs = [c0] := by
      match cs, hlen with
      | [c0], _ => exact ⟨c0, rfl⟩
    obtain ⟨s, f0, hx, _⟩ := DataW.trod_string Try.underlying9 ht
    simp only [List.cons.injEq, and_true] at f0
    subst f0
    simp only [Prod.mk.injEq] at hx
    have hg0 := hget 0 (by omega)
    exact ⟨s, ⟨b, o, rfl, hlt, by simpa using hg0⟩, hx.1⟩)
  subst hl
  rw [map_range (f := fun s : ByteArray => DataW.lit (.string s.data.toList)) (fun i x hx => (hp i x hx).2)] at h3
  refine ⟨l, ⟨a, cap, rfl, h1, h2, ?_⟩, fun s hs => ?_, ?_, h3.imp (fun ⟨x, y⟩ => ⟨x, List.eq_nil_of_length_eq_zero y⟩) (fun x => ⟨sp, x⟩)⟩
  · by_cases h0 : l = []
    · exact .inl h0
    · have hpos := List.length_pos_iff.2 h0
      obtain ⟨⟨b, o, rfl, hb1, _⟩, _⟩ := hp 0 l[0] (List.getElem?_eq_getElem hpos)
      refine .inr ⟨b, o, rfl, hb1, fun i s hs => ?_⟩
      obtain ⟨⟨b', o', e, _, c1⟩, _⟩ := hp i s hs
      simp only [Option.some.injEq, Addr.mk.injEq] at e
      obtain ⟨rfl, rfl, _⟩ := e
      exact c1
  · rcases h3 with ⟨_, h0⟩ | rfl
    · rw [List.eq_nil_of_length_eq_zero h0] at hs; cases hs
    · have := hb _ (weights_slice_mem Try.underlying22 (x := .lit (.string s.data.toList)) (List.mem_map.2 ⟨s, hs, rfl⟩) (n := s.data.toList.length) (by simp [DataW.weights]))
      simpa using this
  · rcases h3 with ⟨_, h0⟩ | rfl
    · rw [h0]; exact Nat.zero_le _
    · have h5 := hb _ (weights_len Try.underlying22)
      rw [show Try.prog.bytesOf 9 = 16 by kernel_rfl, List.length_map] at h5
      exact Nat.le_trans (Nat.mul_le_mul_right 16 (Nat.le_add_right _ _)) h5
theorem trod_of_value {H : Type} {enc : TypeId × Value → H} {P : Program} {W : World} {t : TypeId} {v : Value} {d : DataW H} {ps : List MemPlace} (hone : v.cells.toList = [v] ∨ v.cells = #[v]) (h : DataW.Trod enc P W 0 (fun _ => true) true t v d ps) : ∃ fuel, DataW.trod enc P W 0 (fun _ => true) true fuel t [v] = some (d, ps) := by
  obtain ⟨fuel, hf⟩ := h
  exact ⟨fuel, by rcases hone with e | e <;> simpa [e] using hf⟩
/-- An argument of type []string, opened. -/
theorem open_strs0 {H : Type} {enc : TypeId × Value → H} {W : World} {v : Value} {d : DataW H} {ps : List MemPlace} {r : Reach} {b0 : Nat} (hval : Value.okWide Try.prog W r b0 22 v)
    (hd : DataW.Trod enc Try.prog W 0 (fun _ => true) true 22 v d ps) (hb : ∀ n ∈ d.weights Try.prog 22, n ≤ reachBytes) :
    ∃ l : List ByteArray, Strs W v l ∧ (∀ s ∈ l, s.size ≤ reachBytes) ∧ l.length * 16 ≤ reachBytes ∧ ((d = .nil ∧ l = []) ∨ ∃ sp, d = .slice (l.map fun s => .lit (.string s.data.toList)) sp) := by
  obtain ⟨a, n, c, rfl⟩ := okWide_slice Try.underlying22 hval
  obtain ⟨fuel, hf⟩ := hd
  exact open_strs1 hf hb
end Go.Proofs.Ytomlknjpaielgaa
