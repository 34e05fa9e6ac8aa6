/- A slice that comes with a datum, opened: its cells, element by element, each element's own reading; what the size bound says of an element. No condition. -/
import Derived.Test.YtojgopbaiflfgaaGreatDoorLaw
import Derived.Deep.Slices
import Derived.Laws.Entries
namespace Go.Proofs.YtojgopbaiflfgaaGreatDoor
set_option maxRecDepth 100000
open Go.RowKit Go.Shelf Go.ChangeShapes Go.WideShapes Go.ChangeAt

theorem weightsAll_mem {H : Type} {P : Program} {e : TypeId} {x : DataW H} {n : Nat} : ∀ {l : List (DataW H)}, x ∈ l → n ∈ x.weights P e → n ∈ DataW.weightsAll P e l
  | d :: l, hx, hn => by
    simp only [DataW.weightsAll, List.mem_append]
    rcases List.mem_cons.1 hx with rfl | hx
    · exact .inl hn
    · exact .inr (weightsAll_mem hx hn)
theorem weights_slice_mem {H : Type} {P : Program} {t e : TypeId} {x : DataW H} {n : Nat} {l sp : List (DataW H)} (ht : P.underlying t = some (.slice e)) (hx : x ∈ l) (hn : n ∈ x.weights P e) : n ∈ (DataW.slice l sp).weights P t := by
  simp only [DataW.weights, ht, List.mem_cons, List.mem_append]
  exact .inr (.inl (weightsAll_mem hx hn))
theorem sized_each {H : Type} {P : Program} {ts : List TypeId} {ds : List (DataW H)} (h : (DataW.weightsEach P ts ds).all (· ≤ reachBytes) = true) {j : Nat} {t : TypeId} {d : DataW H} (ht : ts[j]? = some t) (hd : ds[j]? = some d) : ∀ n ∈ d.weights P t, n ≤ reachBytes := fun n hn => by
  have := List.all_eq_true.1 h _ (DataW.weights_mem_each ht hd n hn)
  simpa using this

theorem addr_spot {w : World} {a : Addr} {v : Value} (h : w.cell? a = some v) : a.spot = none := by
  unfold World.cell? at h
  split at h
  · split at h
    · cases h
    · rename_i hs
      cases ha : a.spot with
      | none => rfl
      | some s => rw [ha] at hs; simp at hs
  · cases h
theorem cell_lt {w : World} {a : Addr} {v : Value} (h : w.cell? a = some v) : a.block < w.heap.size := by
  unfold World.cell? at h
  split at h
  · rename_i h1
    exact (Array.getElem?_eq_some_iff.1 h1).1
  · cases h
theorem open_slice_cells {H : Type} {enc : TypeId × Value → H} {P : Program} {W : World} {t e : TypeId} {c : Nat} {v : Value} {d : DataW H} {ps : List MemPlace} {r : Reach} {b0 : Nat} (ht : P.underlying t = some (.slice e)) (hc : P.cellsOf e = c) (h1 : 1 ≤ c)
    (hval : Value.okWide P W r b0 t v) (hd : DataW.Trod enc P W 0 (fun _ => true) true t v d ps) :
    ∃ (a : Option Addr) (n cap : Nat) (D : Nat → DataW H) (sp : List (DataW H)), v = .slice a n cap ∧ n ≤ cap ∧ cap ≤ maxLen ∧ ((d = .nil ∧ n = 0) ∨ d = .slice ((List.range n).map D) sp) ∧
      ∀ i, i < n → ∃ b o cs fuel pl, a = some ⟨b, o, none⟩ ∧ b < W.heap.size ∧ cs.length = c ∧ (∀ j, j < c → W.cell? ⟨b, o + i * c + j, none⟩ = cs[j]?) ∧ DataW.trod enc P W 0 (fun _ => true) true fuel e cs = some (D i, pl) := by
  obtain ⟨a0, n0, c0, rfl⟩ := okWide_slice ht hval
  obtain ⟨fuel, hf⟩ := hd
  rcases Go.Deep.open_slice ht hf with ⟨hcs, hx⟩ | ⟨a, len, cap, m, n, D, Pl, hcs, hb, hl, hm, hmm, hx, hall⟩
  · simp only [Value.cells, List.cons.injEq, Value.slice.injEq, and_true] at hcs
    obtain ⟨rfl, rfl, rfl⟩ := hcs
    simp only [Prod.mk.injEq] at hx
    exact ⟨none, 0, 0, fun _ => .nil, [], rfl, Nat.le_refl _, by decide, .inl ⟨hx.1, rfl⟩, fun i hi => absurd hi (Nat.not_lt_zero _)⟩
  · simp only [Value.cells, List.cons.injEq, Value.slice.injEq, and_true] at hcs
    obtain ⟨rfl, rfl, rfl⟩ := hcs
    simp only [Prod.mk.injEq] at hx
    refine ⟨some a, n0, c0, D, _, rfl, hl, hm, .inr hx.1, fun i hi => ?_⟩
    have hspot : a.spot = none := by
      obtain ⟨cs, h2, _⟩ := hall 0 (by rw [hmm]; simp; omega)
      rw [hc] at h2
      obtain ⟨_, hlen, hget⟩ := World.cells?_some h2
      have h0 := hget 0 (by omega)
      obtain ⟨u, hu⟩ : ∃ u, cs[0]? = some u := ⟨_, List.getElem?_eq_getElem (by omega)⟩
      rw [hu] at h0
      have := addr_spot h0
      simpa [Addr.add] using this
    obtain ⟨b, o, sp⟩ := a
    simp only at hspot
    subst hspot
    obtain ⟨cs, h2, h3⟩ := hall i (by rw [hmm]; simp; omega)
    rw [hc] at h2
    obtain ⟨_, hlen, hget⟩ := World.cells?_some h2
    simp only [Addr.add_lit] at hget
    obtain ⟨u, hu⟩ : ∃ u, cs[0]? = some u := ⟨_, List.getElem?_eq_getElem (by omega)⟩
    exact ⟨b, o, cs, n, Pl i, rfl, cell_lt ((hget 0 (by omega)).trans hu), hlen, hget, h3⟩
end Go.Proofs.YtojgopbaiflfgaaGreatDoor
