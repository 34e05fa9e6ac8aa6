/- A region that draws its order, by what its operations have left so far: one goal an operation, whatever the order. No condition. -/
import Derived.Test.YtojgopbaiflfgaaGreatDoorBase
import Derived.RegionTactic
import Derived.Test.YtojgopbaiflfgaaGreatDoorSlc
namespace Go.Proofs.YtojgopbaiflfgaaGreatDoor
set_option maxRecDepth 100000
open Go.RowKit Go.Shelf

/-- S holds of every operation and its number. -/
def Steps (S : Nat → Oper → Prop) : Nat → List Oper → Prop
  | _, [] => True
  | n, o :: l => S n o ∧ Steps S (n + 1) l
theorem Steps.at {S : Nat → Oper → Prop} : ∀ {l : List Oper} {n : Nat}, Steps S n l → ∀ {i : Nat} {o : Oper}, l[i]? = some o → S (n + i) o
  | [], _, _, _, _, h => by simp at h
  | _ :: _, _, ⟨h1, h2⟩, 0, _, h => by simp at h; subst h; exact h1
  | _ :: l, n, ⟨h1, h2⟩, i + 1, o, h => by
    have := Steps.at h2 (i := i) (o := o) (by simpa using h)
    rwa [Nat.add_assoc, Nat.add_comm 1 i] at this

theorem Steps.imp {S S' : Nat → Oper → Prop} (h : ∀ i o, S i o → S' i o) : ∀ {l : List Oper} {n : Nat}, Steps S n l → Steps S' n l
  | [], _, _ => trivial
  | _ :: _, _, ⟨h1, h2⟩ => ⟨h _ _ h1, Steps.imp h h2⟩

section
variable {P : Program} {ops : Array Oper} {Q : Exit → Act → World → Prop}

/-- Every operation waits for earlier ones only. -/
def onward (ops : Array Oper) : Bool := (List.range ops.size).all fun i => ((ops[i]?).map (·.after.all fun e => !Region.binds .any e || decide (e.on < i))).getD true
/-- The operation, ready where those of L have been carried out, leaves Inv. -/
def StepInv (P : Program) (ops : Array Oper) (Q : Exit → Act → World → Prop) (Inv : (Nat → Bool) → Act → World → Prop) (i : Nat) (o : Oper) : Prop :=
  ∀ (L : Nat → Bool) (a : Act) (w : World), L i = false → (o.after.all fun e => !Region.binds .any e || L e.on) = true → Inv L a w →
    ∀ K' : Act → World → Prop, (∀ a w, Inv (fun j => L j || j == i) a w → K' a w) → if Region.wanted o (yielded ops a.tmps) = true then Oper.wp P o a w K' Q else K' (a.put o.dst undef) w

theorem wpAny_inv (Inv : (Nat → Bool) → Act → World → Prop) (hacyc : onward ops = true) (hstep : ∀ (i : Nat) (o : Oper), ops[i]? = some o → StepInv P ops Q Inv i o) (hend : ∀ a w, Inv (fun _ => true) a w → Q .normal a w) :
    ∀ (fuel : Nat) (listed : Array Bool) (a : Act) (w : World), listed.size = ops.size → listed.toList.count false = fuel → Inv (fun j => listed.getD j true) a w → wpAny P .any ops Q fuel listed a w := by
  have hall : ∀ (listed : Array Bool), listed.toList.count false = 0 → (fun j => listed.getD j true) = fun _ => true := fun listed h0 => by
    funext j
    rw [List.count_eq_zero] at h0
    by_cases hj : j < listed.size
    · rw [Array.getD_eq_getD_getElem?, Array.getElem?_eq_getElem hj, Option.getD_some]
      cases hv : listed[j] with
      | true => rfl
      | false => exact absurd (by rw [← hv]; simp) h0
    · rw [Array.getD_eq_getD_getElem?, Array.getElem?_eq_none (by omega), Option.getD_none]
  intro fuel
  induction fuel with
  | zero =>
    intro listed a w hsz hc hI
    have hL := hall listed hc
    refine ⟨?_, hend a w (by rw [← hL]; exact hI)⟩
    unfold Region.ready
    rw [List.filter_eq_nil_iff]
    intro i _
    have h2 : listed.getD i true = true := congrFun hL i
    rw [h2]
    simp
  | succ fuel ih =>
    intro listed a w hsz hc hI
    refine ⟨fun h0 => ?_, fun i hi => ?_⟩
    · exfalso
      have hex : ∃ i, listed.getD i true = false := by
        have : 0 < listed.toList.count false := by omega
        rw [List.count_pos_iff, List.mem_iff_getElem?] at this
        obtain ⟨i, hi⟩ := this
        exact ⟨i, by rw [Array.getD_eq_getD_getElem?, ← Array.getElem?_toList, hi]; rfl⟩
      have hmin : ∀ n, (∃ i, i < n ∧ listed.getD i true = false) → ∃ i, listed.getD i true = false ∧ ∀ j, j < i → listed.getD j true = true := by
        intro n
        induction n with
        | zero => rintro ⟨i, hi, _⟩; omega
        | succ n ihn =>
          rintro ⟨i, hi, hv⟩
          by_cases h : ∃ i, i < n ∧ listed.getD i true = false
          · exact ihn h
          · refine ⟨i, hv, fun j hj => ?_⟩
            cases hb : listed.getD j true with
            | true => rfl
            | false => exact absurd ⟨j, by omega, hb⟩ h
      obtain ⟨i0, hi0⟩ := hex
      obtain ⟨i, hi, hlt⟩ := hmin (i0 + 1) ⟨i0, by omega, hi0⟩
      have his : i < ops.size := by
        rw [← hsz]
        by_cases hj : i < listed.size
        · exact hj
        · rw [Array.getD_eq_getD_getElem?, Array.getElem?_eq_none (by omega), Option.getD_none] at hi; cases hi
      have hmem : i ∈ Region.ready .any ops listed := by
        unfold Region.ready
        rw [List.mem_filter]
        refine ⟨by simpa using his, ?_⟩
        unfold onward at hacyc
        rw [List.all_eq_true] at hacyc
        have ha := hacyc i (by simpa using his)
        rw [Array.getElem?_eq_getElem his, Option.map_some, Option.getD_some, Array.all_eq_true_iff_forall_mem] at ha
        rw [hi, Array.getElem?_eq_getElem his, Option.map_some, Option.getD_some, Bool.not_false, Bool.true_and, Array.all_eq_true_iff_forall_mem]
        intro e he
        have h1 := ha e he
        rw [Bool.or_eq_true, decide_eq_true_iff] at h1
        rw [Bool.or_eq_true]
        refine h1.imp id fun h2 => ?_
        have h3 := hlt e.on h2
        rw [Array.getD_eq_getD_getElem?, Array.getElem?_eq_getElem (by omega), Option.getD_some] at h3 ⊢
        exact h3
      rw [h0] at hmem
      cases hmem
    · unfold Region.ready at hi
      rw [List.mem_filter] at hi
      obtain ⟨hi1, hi2⟩ := hi
      have his : i < ops.size := by simpa using hi1
      have hil : i < listed.size := by omega
      rw [Bool.and_eq_true, Bool.not_eq_true', Array.getElem?_eq_getElem his, Option.map_some, Option.getD_some] at hi2
      obtain ⟨hi2, hi3⟩ := hi2
      refine wpOp_step (Array.getElem?_eq_getElem his) fun K' hK => hstep i _ (Array.getElem?_eq_getElem his) (fun j => listed.getD j true) a w hi2 ?_ hI K' fun a' w' hI' => hK a' w' (ih _ a' w' (by simpa using hsz) ?_ ?_)
      · rw [Array.all_eq_true_iff_forall_mem] at hi3 ⊢
        intro e he
        have h1 := hi3 e he
        rw [Bool.or_eq_true] at h1 ⊢
        refine h1.imp id fun h2 => ?_
        rw [Array.getD_eq_getD_getElem?] at h2 ⊢
        cases hx : listed[e.on]? with
        | none => rfl
        | some b => rw [hx] at h2; exact h2
      · have hv : listed[i] = false := by rw [Array.getD_eq_getD_getElem?, Array.getElem?_eq_getElem hil, Option.getD_some] at hi2; exact hi2
        have h1 := List.count_set (a := true) (b := false) (l := listed.toList) (i := i) (by simpa using hil)
        simp [hv] at h1
        simp [Array.toList_setIfInBounds, h1]
        simp at hc
        omega
      · have : (fun j => (listed.setIfInBounds i true).getD j true) = fun j => listed.getD j true || j == i := by
          funext j
          rw [Array.getD_eq_getD_getElem?, Array.getD_eq_getD_getElem?, Array.getElem?_setIfInBounds]
          by_cases hij : i = j
          · subst hij; simp [hil]
          · have : (j == i) = false := by simp; omega
            rw [if_neg hij, this, Bool.or_false]
        rw [this]
        exact hI'

/-- The region is shown by its operations, one at a time, whatever came before. -/
theorem wp_region_inv {id : Nat} {a : Act} {w : World} {l : List Oper} (Inv : (Nat → Bool) → Act → World → Prop) (hm : P.follows .mixedOrders = true) (hacyc : onward l.toArray = true)
    (h0 : Inv (fun j => decide (l.length ≤ j)) a w.drew) (hstep : Steps (StepInv P l.toArray Q Inv) 0 l) (hend : ∀ a w, Inv (fun _ => true) a w → Q .normal a w) : (Code.region id l.toArray true).wp P Q a w := by
  refine wp_region_any hm (wpAny_inv Inv hacyc (fun i o ho => ?_) hend _ _ a _ (by simp) (by simp) ?_)
  · have := hstep.at (i := i) (o := o) (by simpa using ho)
    rwa [Nat.zero_add] at this
  · have : (fun j => (Array.replicate l.toArray.size false).getD j true) = fun j => decide (l.length ≤ j) := by
      funext j
      rw [Array.getD_eq_getD_getElem?, Array.getElem?_replicate]
      by_cases hj : j < l.length
      · rw [if_pos (by simpa using hj)]; simp; omega
      · rw [if_neg (by simpa using hj)]; simp; omega
    rw [this]
    exact h0
/-- The same, the ten slots that the region writes named, the rest of the frame left as it was. -/
theorem wp_region_inv10 {id : Nat} {w : World} {l : List Oper} {F : Value → Value → Value → Value → Value → Value → Value → Value → Value → Value → Act} (u0 u1 u2 u3 u4 u5 u6 u7 u8 u9 : Value) (Inv : (Nat → Bool) → Value → Value → Value → Value → Value → Value → Value → Value → Value → Value → World → Prop) (hm : P.follows .mixedOrders = true) (hacyc : onward l.toArray = true)
    (h0 : Inv (fun j => decide (l.length ≤ j)) u0 u1 u2 u3 u4 u5 u6 u7 u8 u9 w.drew)
    (hstep : Steps (fun i o => ∀ (L : Nat → Bool) (v0 v1 v2 v3 v4 v5 v6 v7 v8 v9 : Value) (w : World), L i = false → (o.after.all fun e => !Region.binds .any e || L e.on) = true → Inv L v0 v1 v2 v3 v4 v5 v6 v7 v8 v9 w →
      ∀ K' : Act → World → Prop, (∀ v0 v1 v2 v3 v4 v5 v6 v7 v8 v9 w, Inv (fun j => L j || j == i) v0 v1 v2 v3 v4 v5 v6 v7 v8 v9 w → K' (F v0 v1 v2 v3 v4 v5 v6 v7 v8 v9) w) → if Region.wanted o (yielded l.toArray (F v0 v1 v2 v3 v4 v5 v6 v7 v8 v9).tmps) = true then Oper.wp P o (F v0 v1 v2 v3 v4 v5 v6 v7 v8 v9) w K' Q else K' ((F v0 v1 v2 v3 v4 v5 v6 v7 v8 v9).put o.dst undef) w) 0 l)
    (hend : ∀ v0 v1 v2 v3 v4 v5 v6 v7 v8 v9 w, Inv (fun _ => true) v0 v1 v2 v3 v4 v5 v6 v7 v8 v9 w → Q .normal (F v0 v1 v2 v3 v4 v5 v6 v7 v8 v9) w) : (Code.region id l.toArray true).wp P Q (F u0 u1 u2 u3 u4 u5 u6 u7 u8 u9) w := by
  refine wp_region_inv (fun L a w => ∃ v0 v1 v2 v3 v4 v5 v6 v7 v8 v9, a = F v0 v1 v2 v3 v4 v5 v6 v7 v8 v9 ∧ Inv L v0 v1 v2 v3 v4 v5 v6 v7 v8 v9 w) hm hacyc ⟨_, _, _, _, _, _, _, _, _, _, rfl, h0⟩ (Steps.imp (fun i o h => ?_) hstep) ?_
  · rintro L _ w hL hd ⟨v0, v1, v2, v3, v4, v5, v6, v7, v8, v9, rfl, hI⟩ K' hK
    exact h L v0 v1 v2 v3 v4 v5 v6 v7 v8 v9 w hL hd hI K' fun x0 x1 x2 x3 x4 x5 x6 x7 x8 x9 w hI => hK _ _ ⟨_, _, _, _, _, _, _, _, _, _, rfl, hI⟩
  · rintro _ w ⟨v0, v1, v2, v3, v4, v5, v6, v7, v8, v9, rfl, hI⟩
    exact hend v0 v1 v2 v3 v4 v5 v6 v7 v8 v9 w hI
end
theorem wp_append_slc2 {P : Program} {o : Oper} {a : Act} {w : World} {K : Act → World → Prop} {Q : Exit → Act → World → Prop} (s x : Operand) (t : TypeId)
    (ho : o.op = .call { callee := .builtin .append, args := #[s, x], argTypes := #[t, t] })
    (base : Nat) (e : TypeId) (i : TypeInfo) (z : Value) (size bytes : Nat) (ht : P.underlying t = some (.slice e)) (hi : P.info? e = some i) (hz : i.zero = some z)
    (hsize : i.size = size) (hby : i.bytes = bytes) (hzs : z.cells.size = size) (hsz : 0 < size)
    (v : Value) (n : Nat) (xs : List Value) (hs : a.eval s = v) (hown : w.ownsRow base e size v n xs) (u : Value) (m : Nat) (news : List Value) (hx : a.eval x = u) (hu : Slc w size u m news) (h1 : ∀ x ∈ news, x.oneCell' = true)
    (h63 : n + m ≤ maxLen) (hbytes : (n + m) * bytes ≤ 140737488355328) (hbase : base ≤ w.heap.size)
    (h : ∀ v' w', w'.ownsRow base e size v' (n + m) (xs ++ news) → w.grownBy w' v.ownBlock → (v'.ownBlock = v.ownBlock ∨ v'.ownBlock = some w.heap.size) → K (a.put o.dst v') w') :
    Oper.wp P o a w K Q := by
  obtain ⟨v', w', hrun, h2, h3, h4⟩ := run_append_slc (P := P) (w := w) base t o.type e i z size bytes ht hi hz hsize hby hzs hsz v n xs hown u m news hu h1 h63 hbytes hbase
  unfold Oper.wp execOp
  simp only [ho, resolve, invoke, builtin, Sem.run_bind, Sem.run_pure, Result.andThen_ok, List.map_toArray, List.map_cons, List.map_nil, hs, hx, hrun]
  exact h v' w' h2 h3 h4
end Go.Proofs.YtojgopbaiflfgaaGreatDoor
