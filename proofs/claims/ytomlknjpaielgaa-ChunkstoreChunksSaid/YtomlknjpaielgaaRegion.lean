/- A region that draws its order, walked by hand where one operation alone may come up: whole arrays loaded and stored; a call. No condition. -/
import Derived.Test.YtomlknjpaielgaaB2Comp
namespace Go.Proofs.Ytomlknjpaielgaa
set_option maxRecDepth 100000
open Go.RowKit Go.Shelf Go.Proofs.Ytomlknjpaielgaa.B2

section
variable {P : Program} {md : Region.Mode} {ops : Array Oper} {Q : Exit → Act → World → Prop} {fuel : Nat} {listed : Array Bool} {a : Act} {w : World}
theorem wpAny_at {i : Nat} {o : Oper} (hr : Region.ready md ops listed = [i]) (ho : ops[i]? = some o) (hg : o.guard = none)
    (h : ∀ K' : Act → World → Prop, (∀ a w, wpAny P md ops Q fuel (listed.setIfInBounds i true) a w → K' a w) → Oper.wp P o a w K' Q) : wpAny P md ops Q (fuel + 1) listed a w :=
  wpAny_ready hr (by simp) (AllReady.cons ho (fun K' hK => by rw [if_pos (by simp [Region.wanted, hg])]; exact h K' hK) AllReady.nil)
theorem wpAny_load_arr (i : Nat) (ty : TypeId) (x : Operand) (d : Option Tmp) (hr : Region.ready md ops listed = [i]) (ho : ops[i]?.map (fun o => (o.op, o.dst, o.guard)) = some (.load ty x, d, none))
    (g : Nat) (t : TypeId) (xs : List Value) (hx : a.eval x = .pointer (some ⟨g, 0, none⟩)) (hg : Arr w g t xs)
    (n : Nat) (e : TypeId) (hu : P.underlying ty = some (.array n e)) (hi : (P.info? ty).map (·.size) = some xs.length)
    (h : wpAny P md ops Q fuel (listed.setIfInBounds i true) (a.put d (.agg xs.toArray)) w) : wpAny P md ops Q (fuel + 1) listed a w := by
  obtain ⟨o, h1, h2⟩ := Option.map_eq_some_iff.1 ho
  simp only [Prod.mk.injEq] at h2
  obtain ⟨e1, rfl, e3⟩ := h2
  exact wpAny_at hr h1 e3 fun K' hK => wp_load_row ty x e1 g hx t _ (0, 0) _ hg hu rfl (by simpa using hi) (hK _ _ h)
theorem wpAny_store_arr (i : Nat) (ty : TypeId) (x y : Operand) (d : Option Tmp) (hr : Region.ready md ops listed = [i]) (ho : ops[i]?.map (fun o => (o.op, o.dst, o.guard)) = some (.store ty x y, d, none))
    (g : Nat) (t : TypeId) (xs ys : List Value) (hx : a.eval x = .pointer (some ⟨g, 0, none⟩)) (hy : a.eval y = .agg ys.toArray)
    (hg : Arr w g t xs) (hi : (P.info? ty).map (·.size) = some ys.length) (hl : xs.length = ys.length) (h1 : ∀ v ∈ ys, v.oneCell' = true)
    (h : ∀ w', Arr w' g t ys → w.grownBy w' (some g) → wpAny P md ops Q fuel (listed.setIfInBounds i true) (a.put d undef) w') : wpAny P md ops Q (fuel + 1) listed a w := by
  obtain ⟨o, h1', h2⟩ := Option.map_eq_some_iff.1 ho
  simp only [Prod.mk.injEq] at h2
  obtain ⟨e1, rfl, e3⟩ := h2
  exact wpAny_at hr h1' e3 fun K' hK => wp_store_row ty x y e1 g ys.toArray hx hy t _ hg (by simpa using hi) (by simpa using hl) (by rw [Array.all_eq_true_iff_forall_mem]; intro v hv; exact h1 v (by simpa using hv)) (hK _ _ (h _ (setRow_arr hg ys) (setRow_grown _)))
theorem wpAny_enter (i : Nat) (c : Op) (d : Option Tmp) (hr : Region.ready md ops listed = [i]) (ho : ops[i]?.map (fun o => (o.op, o.dst, o.guard)) = some (c, d, none))
    (f : Nat) (args : Array Value) (he : ∀ o : Oper, o.op = c → (execOp a.eval o).run P w = .ok (.enter f args) w) (R : Ending → World → Prop) (hc : Calls P f args w R)
    (h : ∀ e w', R e w' → ∃ v, e = .returned v ∧ wpAny P md ops Q fuel (listed.setIfInBounds i true) (a.put d v) w') : wpAny P md ops Q (fuel + 1) listed a w := by
  obtain ⟨o, h1', h2⟩ := Option.map_eq_some_iff.1 ho
  simp only [Prod.mk.injEq] at h2
  obtain ⟨e1, rfl, e3⟩ := h2
  refine wpAny_at hr h1' e3 fun K' hK => ?_
  unfold Oper.wp
  rw [he o e1]
  simp only [Oper.upon]
  refine hc.mono ?_
  intro e w' hR
  obtain ⟨v, rfl, hv⟩ := h e w' hR
  exact hK _ _ hv
end
end Go.Proofs.Ytomlknjpaielgaa
