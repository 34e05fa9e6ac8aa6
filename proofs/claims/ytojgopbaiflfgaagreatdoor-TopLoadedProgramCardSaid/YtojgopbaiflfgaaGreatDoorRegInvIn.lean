/- A region that draws its order inside a fence, by what its operations have left so far: one goal an operation, whatever the order. No condition. -/
import Derived.Test.YtojgopbaiflfgaaGreatDoorRegInv
import Derived.BigRegionIn
namespace Go.Proofs.YtojgopbaiflfgaaGreatDoor
set_option maxRecDepth 100000
open Go.RowKit Go.Shelf

section
variable {F : Fence} {n : Nat} {P : Program} {ops : Array Oper} {Q : Exit → Act → World → Prop}

/-- The operation, ready where those of L have been carried out, leaves Inv. -/
def StepInvIn (F : Fence) (n : Nat) (P : Program) (ops : Array Oper) (Q : Exit → Act → World → Prop) (Inv : (Nat → Bool) → Act → World → Prop) (i : Nat) (o : Oper) : Prop :=
  ∀ (L : Nat → Bool) (a : Act) (w : World), L i = false → (o.after.all fun e => !Region.binds .any e || L e.on) = true → Inv L a w →
    ∀ K' : Act → World → Prop, (∀ a w, Inv (fun j => L j || j == i) a w → K' a w) → if Region.wanted o (yielded ops a.tmps) = true then Oper.wpIn F n P o a w K' Q else (∀ f, o.about P w a.eval = some f → F.fn f) ∧ K' (a.put o.dst undef) w

theorem wpAnyIn_inv (Inv : (Nat → Bool) → Act → World → Prop) (hacyc : onward ops = true) (hstep : ∀ (i : Nat) (o : Oper), ops[i]? = some o → StepInvIn F n P ops Q Inv i o) (hend : ∀ a w, Inv (fun _ => true) a w → Q .normal a w) :
    ∀ (fuel : Nat) (listed : Array Bool) (a : Act) (w : World), listed.size = ops.size → listed.toList.count false = fuel → Inv (fun j => listed.getD j true) a w → wpAnyIn F n P .any ops Q fuel listed a w := by
  have hall : ∀ (listed : Array Bool), listed.toList.count false = 0 → (fun j => listed.getD j true) = fun _ => true := fun listed h0 => by
    funext j
    rw [List.count_eq_zero] at h0
    by_cases hj : j < listed.size
    · rw [Array.getD_eq_getD_getElem?, Array.getElem?_eq_getElem hj, Option.getD_some]
      cases hv : listed[j] with
      | true => rfl
      | false => exact absurd (by rw [← hv]; simp) h0
    · rw [Array.getD_eq_getD_getElem?, Array.getElem?_eq_none (by omega), Option.getD_none]
  intro fuel
  induction fuel with
  | zero =>
    intro listed a w hsz hc hI
    have hL := hall listed hc
    refine ⟨?_, hend a w (by rw [← hL]; exact hI)⟩
    unfold Region.ready
    rw [List.filter_eq_nil_iff]
    intro i _
    have h2 : listed.getD i true = true := congrFun hL i
    rw [h2]
    simp
  | succ fuel ih =>
    intro listed a w hsz hc hI
    refine ⟨fun h0 => ?_, fun i hi => ?_⟩
    · exfalso
      have hex : ∃ i, listed.getD i true = false := by
        have : 0 < listed.toList.count false := by omega
        rw [List.count_pos_iff, List.mem_iff_getElem?] at this
        obtain ⟨i, hi⟩ := this
        exact ⟨i, by rw [Array.getD_eq_getD_getElem?, ← Array.getElem?_toList, hi]; rfl⟩
      have hmin : ∀ n, (∃ i, i < n ∧ listed.getD i true = false) → ∃ i, listed.getD i true = false ∧ ∀ j, j < i → listed.getD j true = true := by
        intro n
        induction n with
        | zero => rintro ⟨i, hi, _⟩; omega
        | succ n ihn =>
          rintro ⟨i, hi, hv⟩
          by_cases h : ∃ i, i < n ∧ listed.getD i true = false
          · exact ihn h
          · refine ⟨i, hv, fun j hj => ?_⟩
            cases hb : listed.getD j true with
            | true => rfl
            | false => exact absurd ⟨j, by omega, hb⟩ h
      obtain ⟨i0, hi0⟩ := hex
      obtain ⟨i, hi, hlt⟩ := hmin (i0 + 1) ⟨i0, by omega, hi0⟩
      have his : i < ops.size := by
        rw [← hsz]
        by_cases hj : i < listed.size
        · exact hj
        · rw [Array.getD_eq_getD_getElem?, Array.getElem?_eq_none (by omega), Option.getD_none] at hi; cases hi
      have hmem : i ∈ Region.ready .any ops listed := by
        unfold Region.ready
        rw [List.mem_filter]
        refine ⟨by simpa using his, ?_⟩
        unfold onward at hacyc
        rw [List.all_eq_true] at hacyc
        have ha := hacyc i (by simpa using his)
        rw [Array.getElem?_eq_getElem his, Option.map_some, Option.getD_some, Array.all_eq_true_iff_forall_mem] at ha
        rw [hi, Array.getElem?_eq_getElem his, Option.map_some, Option.getD_some, Bool.not_false, Bool.true_and, Array.all_eq_true_iff_forall_mem]
        intro e he
        have h1 := ha e he
        rw [Bool.or_eq_true, decide_eq_true_iff] at h1
        rw [Bool.or_eq_true]
        refine h1.imp id fun h2 => ?_
        have h3 := hlt e.on h2
        rw [Array.getD_eq_getD_getElem?, Array.getElem?_eq_getElem (by omega), Option.getD_some] at h3 ⊢
        exact h3
      rw [h0] at hmem
      cases hmem
    · unfold Region.ready at hi
      rw [List.mem_filter] at hi
      obtain ⟨hi1, hi2⟩ := hi
      have his : i < ops.size := by simpa using hi1
      have hil : i < listed.size := by omega
      rw [Bool.and_eq_true, Bool.not_eq_true', Array.getElem?_eq_getElem his, Option.map_some, Option.getD_some] at hi2
      obtain ⟨hi2, hi3⟩ := hi2
      refine wpOpIn_step (Array.getElem?_eq_getElem his) fun K' hK => hstep i _ (Array.getElem?_eq_getElem his) (fun j => listed.getD j true) a w hi2 ?_ hI K' fun a' w' hI' => hK a' w' (ih _ a' w' (by simpa using hsz) ?_ ?_)
      · rw [Array.all_eq_true_iff_forall_mem] at hi3 ⊢
        intro e he
        have h1 := hi3 e he
        rw [Bool.or_eq_true] at h1 ⊢
        refine h1.imp id fun h2 => ?_
        rw [Array.getD_eq_getD_getElem?] at h2 ⊢
        cases hx : listed[e.on]? with
        | none => rfl
        | some b => rw [hx] at h2; exact h2
      · have hv : listed[i] = false := by rw [Array.getD_eq_getD_getElem?, Array.getElem?_eq_getElem hil, Option.getD_some] at hi2; exact hi2
        have h1 := List.count_set (a := true) (b := false) (l := listed.toList) (i := i) (by simpa using hil)
        simp [hv] at h1
        simp [Array.toList_setIfInBounds, h1]
        simp at hc
        omega
      · have : (fun j => (listed.setIfInBounds i true).getD j true) = fun j => listed.getD j true || j == i := by
          funext j
          rw [Array.getD_eq_getD_getElem?, Array.getD_eq_getD_getElem?, Array.getElem?_setIfInBounds]
          by_cases hij : i = j
          · subst hij; simp [hil]
          · have : (j == i) = false := by simp; omega
            rw [if_neg hij, this, Bool.or_false]
        rw [this]
        exact hI'

/-- The region is shown by its operations, one at a time, whatever came before. -/
theorem wpIn_region_inv {id : Nat} {a : Act} {w : World} {l : List Oper} (Inv : (Nat → Bool) → Act → World → Prop) (hm : P.follows .mixedOrders = true) (hacyc : onward l.toArray = true)
    (h0 : Inv (fun j => decide (l.length ≤ j)) a w.drew) (hstep : Steps (StepInvIn F n P l.toArray Q Inv) 0 l) (hend : ∀ a w, Inv (fun _ => true) a w → Q .normal a w) : (Code.region id l.toArray true).wpIn F n P Q a w := by
  refine wpIn_region_any hm (wpAnyIn_inv Inv hacyc (fun i o ho => ?_) hend _ _ a _ (by simp) (by simp) ?_)
  · have := hstep.at (i := i) (o := o) (by simpa using ho)
    rwa [Nat.zero_add] at this
  · have : (fun j => (Array.replicate l.toArray.size false).getD j true) = fun j => decide (l.length ≤ j) := by
      funext j
      rw [Array.getD_eq_getD_getElem?, Array.getElem?_replicate]
      by_cases hj : j < l.length
      · rw [if_pos (by simpa using hj)]; simp; omega
      · rw [if_neg (by simpa using hj)]; simp; omega
    rw [this]
    exact h0
theorem wpIn_region_inv7 {id : Nat} {w : World} {l : List Oper} {Fr : Value → Value → Value → Value → Value → Value → Value → Act} (u0 u1 u2 u3 u4 u5 u6 : Value) (Inv : (Nat → Bool) → Value → Value → Value → Value → Value → Value → Value → World → Prop) (hm : P.follows .mixedOrders = true) (hacyc : onward l.toArray = true)
    (h0 : Inv (fun j => decide (l.length ≤ j)) u0 u1 u2 u3 u4 u5 u6 w.drew)
    (hstep : Steps (fun i o => ∀ (L : Nat → Bool) (v0 v1 v2 v3 v4 v5 v6 : Value) (w : World), L i = false → (o.after.all fun e => !Region.binds .any e || L e.on) = true → Inv L v0 v1 v2 v3 v4 v5 v6 w →
      ∀ K' : Act → World → Prop, (∀ v0 v1 v2 v3 v4 v5 v6 w, Inv (fun j => L j || j == i) v0 v1 v2 v3 v4 v5 v6 w → K' (Fr v0 v1 v2 v3 v4 v5 v6) w) → if Region.wanted o (yielded l.toArray (Fr v0 v1 v2 v3 v4 v5 v6).tmps) = true then Oper.wpIn F n P o (Fr v0 v1 v2 v3 v4 v5 v6) w K' Q else (∀ f, o.about P w (Fr v0 v1 v2 v3 v4 v5 v6).eval = some f → F.fn f) ∧ K' ((Fr v0 v1 v2 v3 v4 v5 v6).put o.dst undef) w) 0 l)
    (hend : ∀ v0 v1 v2 v3 v4 v5 v6 w, Inv (fun _ => true) v0 v1 v2 v3 v4 v5 v6 w → Q .normal (Fr v0 v1 v2 v3 v4 v5 v6) w) : (Code.region id l.toArray true).wpIn F n P Q (Fr u0 u1 u2 u3 u4 u5 u6) w := by
  refine wpIn_region_inv (fun L a w => ∃ v0 v1 v2 v3 v4 v5 v6, a = Fr v0 v1 v2 v3 v4 v5 v6 ∧ Inv L v0 v1 v2 v3 v4 v5 v6 w) hm hacyc ⟨_, _, _, _, _, _, _, rfl, h0⟩ (Steps.imp (fun i o h => ?_) hstep) ?_
  · rintro L _ w hL hd ⟨v0, v1, v2, v3, v4, v5, v6, rfl, hI⟩ K' hK
    exact h L v0 v1 v2 v3 v4 v5 v6 w hL hd hI K' fun x0 x1 x2 x3 x4 x5 x6 w hI => hK _ _ ⟨_, _, _, _, _, _, _, rfl, hI⟩
  · rintro _ w ⟨v0, v1, v2, v3, v4, v5, v6, rfl, hI⟩
    exact hend v0 v1 v2 v3 v4 v5 v6 w hI
end
section
variable {P : Program} {Q : Exit → Act → World → Prop}
theorem wp_region_inv8 {id : Nat} {w : World} {l : List Oper} {Fr : Value → Value → Value → Value → Value → Value → Value → Value → Act} (u0 u1 u2 u3 u4 u5 u6 u7 : Value) (Inv : (Nat → Bool) → Value → Value → Value → Value → Value → Value → Value → Value → World → Prop) (hm : P.follows .mixedOrders = true) (hacyc : onward l.toArray = true)
    (h0 : Inv (fun j => decide (l.length ≤ j)) u0 u1 u2 u3 u4 u5 u6 u7 w.drew)
    (hstep : Steps (fun i o => ∀ (L : Nat → Bool) (v0 v1 v2 v3 v4 v5 v6 v7 : Value) (w : World), L i = false → (o.after.all fun e => !Region.binds .any e || L e.on) = true → Inv L v0 v1 v2 v3 v4 v5 v6 v7 w →
      ∀ K' : Act → World → Prop, (∀ v0 v1 v2 v3 v4 v5 v6 v7 w, Inv (fun j => L j || j == i) v0 v1 v2 v3 v4 v5 v6 v7 w → K' (Fr v0 v1 v2 v3 v4 v5 v6 v7) w) → if Region.wanted o (yielded l.toArray (Fr v0 v1 v2 v3 v4 v5 v6 v7).tmps) = true then Oper.wp P o (Fr v0 v1 v2 v3 v4 v5 v6 v7) w K' Q else K' ((Fr v0 v1 v2 v3 v4 v5 v6 v7).put o.dst undef) w) 0 l)
    (hend : ∀ v0 v1 v2 v3 v4 v5 v6 v7 w, Inv (fun _ => true) v0 v1 v2 v3 v4 v5 v6 v7 w → Q .normal (Fr v0 v1 v2 v3 v4 v5 v6 v7) w) : (Code.region id l.toArray true).wp P Q (Fr u0 u1 u2 u3 u4 u5 u6 u7) w := by
  refine wp_region_inv (fun L a w => ∃ v0 v1 v2 v3 v4 v5 v6 v7, a = Fr v0 v1 v2 v3 v4 v5 v6 v7 ∧ Inv L v0 v1 v2 v3 v4 v5 v6 v7 w) hm hacyc ⟨_, _, _, _, _, _, _, _, rfl, h0⟩ (Steps.imp (fun i o h => ?_) hstep) ?_
  · rintro L _ w hL hd ⟨v0, v1, v2, v3, v4, v5, v6, v7, rfl, hI⟩ K' hK
    exact h L v0 v1 v2 v3 v4 v5 v6 v7 w hL hd hI K' fun x0 x1 x2 x3 x4 x5 x6 x7 w hI => hK _ _ ⟨_, _, _, _, _, _, _, _, rfl, hI⟩
  · rintro _ w ⟨v0, v1, v2, v3, v4, v5, v6, v7, rfl, hI⟩
    exact hend v0 v1 v2 v3 v4 v5 v6 v7 w hI
theorem wp_region_inv12 {id : Nat} {w : World} {l : List Oper} {Fr : Value → Value → Value → Value → Value → Value → Value → Value → Value → Value → Value → Value → Act} (u0 u1 u2 u3 u4 u5 u6 u7 u8 u9 u10 u11 : Value) (Inv : (Nat → Bool) → Value → Value → Value → Value → Value → Value → Value → Value → Value → Value → Value → Value → World → Prop) (hm : P.follows .mixedOrders = true) (hacyc : onward l.toArray = true)
    (h0 : Inv (fun j => decide (l.length ≤ j)) u0 u1 u2 u3 u4 u5 u6 u7 u8 u9 u10 u11 w.drew)
    (hstep : Steps (fun i o => ∀ (L : Nat → Bool) (v0 v1 v2 v3 v4 v5 v6 v7 v8 v9 v10 v11 : Value) (w : World), L i = false → (o.after.all fun e => !Region.binds .any e || L e.on) = true → Inv L v0 v1 v2 v3 v4 v5 v6 v7 v8 v9 v10 v11 w →
      ∀ K' : Act → World → Prop, (∀ v0 v1 v2 v3 v4 v5 v6 v7 v8 v9 v10 v11 w, Inv (fun j => L j || j == i) v0 v1 v2 v3 v4 v5 v6 v7 v8 v9 v10 v11 w → K' (Fr v0 v1 v2 v3 v4 v5 v6 v7 v8 v9 v10 v11) w) → if Region.wanted o (yielded l.toArray (Fr v0 v1 v2 v3 v4 v5 v6 v7 v8 v9 v10 v11).tmps) = true then Oper.wp P o (Fr v0 v1 v2 v3 v4 v5 v6 v7 v8 v9 v10 v11) w K' Q else K' ((Fr v0 v1 v2 v3 v4 v5 v6 v7 v8 v9 v10 v11).put o.dst undef) w) 0 l)
    (hend : ∀ v0 v1 v2 v3 v4 v5 v6 v7 v8 v9 v10 v11 w, Inv (fun _ => true) v0 v1 v2 v3 v4 v5 v6 v7 v8 v9 v10 v11 w → Q .normal (Fr v0 v1 v2 v3 v4 v5 v6 v7 v8 v9 v10 v11) w) : (Code.region id l.toArray true).wp P Q (Fr u0 u1 u2 u3 u4 u5 u6 u7 u8 u9 u10 u11) w := by
  refine wp_region_inv (fun L a w => ∃ v0 v1 v2 v3 v4 v5 v6 v7 v8 v9 v10 v11, a = Fr v0 v1 v2 v3 v4 v5 v6 v7 v8 v9 v10 v11 ∧ Inv L v0 v1 v2 v3 v4 v5 v6 v7 v8 v9 v10 v11 w) hm hacyc ⟨_, _, _, _, _, _, _, _, _, _, _, _, rfl, h0⟩ (Steps.imp (fun i o h => ?_) hstep) ?_
  · rintro L _ w hL hd ⟨v0, v1, v2, v3, v4, v5, v6, v7, v8, v9, v10, v11, rfl, hI⟩ K' hK
    exact h L v0 v1 v2 v3 v4 v5 v6 v7 v8 v9 v10 v11 w hL hd hI K' fun x0 x1 x2 x3 x4 x5 x6 x7 x8 x9 x10 x11 w hI => hK _ _ ⟨_, _, _, _, _, _, _, _, _, _, _, _, rfl, hI⟩
  · rintro _ w ⟨v0, v1, v2, v3, v4, v5, v6, v7, v8, v9, v10, v11, rfl, hI⟩
    exact hend v0 v1 v2 v3 v4 v5 v6 v7 v8 v9 v10 v11 w hI
theorem wp_region_inv13 {id : Nat} {w : World} {l : List Oper} {Fr : Value → Value → Value → Value → Value → Value → Value → Value → Value → Value → Value → Value → Value → Act} (u0 u1 u2 u3 u4 u5 u6 u7 u8 u9 u10 u11 u12 : Value) (Inv : (Nat → Bool) → Value → Value → Value → Value → Value → Value → Value → Value → Value → Value → Value → Value → Value → World → Prop) (hm : P.follows .mixedOrders = true) (hacyc : onward l.toArray = true)
    (h0 : Inv (fun j => decide (l.length ≤ j)) u0 u1 u2 u3 u4 u5 u6 u7 u8 u9 u10 u11 u12 w.drew)
    (hstep : Steps (fun i o => ∀ (L : Nat → Bool) (v0 v1 v2 v3 v4 v5 v6 v7 v8 v9 v10 v11 v12 : Value) (w : World), L i = false → (o.after.all fun e => !Region.binds .any e || L e.on) = true → Inv L v0 v1 v2 v3 v4 v5 v6 v7 v8 v9 v10 v11 v12 w →
      ∀ K' : Act → World → Prop, (∀ v0 v1 v2 v3 v4 v5 v6 v7 v8 v9 v10 v11 v12 w, Inv (fun j => L j || j == i) v0 v1 v2 v3 v4 v5 v6 v7 v8 v9 v10 v11 v12 w → K' (Fr v0 v1 v2 v3 v4 v5 v6 v7 v8 v9 v10 v11 v12) w) → if Region.wanted o (yielded l.toArray (Fr v0 v1 v2 v3 v4 v5 v6 v7 v8 v9 v10 v11 v12).tmps) = true then Oper.wp P o (Fr v0 v1 v2 v3 v4 v5 v6 v7 v8 v9 v10 v11 v12) w K' Q else K' ((Fr v0 v1 v2 v3 v4 v5 v6 v7 v8 v9 v10 v11 v12).put o.dst undef) w) 0 l)
    (hend : ∀ v0 v1 v2 v3 v4 v5 v6 v7 v8 v9 v10 v11 v12 w, Inv (fun _ => true) v0 v1 v2 v3 v4 v5 v6 v7 v8 v9 v10 v11 v12 w → Q .normal (Fr v0 v1 v2 v3 v4 v5 v6 v7 v8 v9 v10 v11 v12) w) : (Code.region id l.toArray true).wp P Q (Fr u0 u1 u2 u3 u4 u5 u6 u7 u8 u9 u10 u11 u12) w := by
  refine wp_region_inv (fun L a w => ∃ v0 v1 v2 v3 v4 v5 v6 v7 v8 v9 v10 v11 v12, a = Fr v0 v1 v2 v3 v4 v5 v6 v7 v8 v9 v10 v11 v12 ∧ Inv L v0 v1 v2 v3 v4 v5 v6 v7 v8 v9 v10 v11 v12 w) hm hacyc ⟨_, _, _, _, _, _, _, _, _, _, _, _, _, rfl, h0⟩ (Steps.imp (fun i o h => ?_) hstep) ?_
  · rintro L _ w hL hd ⟨v0, v1, v2, v3, v4, v5, v6, v7, v8, v9, v10, v11, v12, rfl, hI⟩ K' hK
    exact h L v0 v1 v2 v3 v4 v5 v6 v7 v8 v9 v10 v11 v12 w hL hd hI K' fun x0 x1 x2 x3 x4 x5 x6 x7 x8 x9 x10 x11 x12 w hI => hK _ _ ⟨_, _, _, _, _, _, _, _, _, _, _, _, _, rfl, hI⟩
  · rintro _ w ⟨v0, v1, v2, v3, v4, v5, v6, v7, v8, v9, v10, v11, v12, rfl, hI⟩
    exact hend v0 v1 v2 v3 v4 v5 v6 v7 v8 v9 v10 v11 v12 w hI
end
end Go.Proofs.YtojgopbaiflfgaaGreatDoor
