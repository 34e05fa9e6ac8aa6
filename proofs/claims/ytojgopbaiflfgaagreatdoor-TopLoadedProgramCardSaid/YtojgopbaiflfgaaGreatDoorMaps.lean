/- A map that a call owns, read as a list of its keys and elements: look-up and store at integer and string keys. No condition. -/
import Derived.Test.YtojgopbaiflfgaaGreatDoorBase
import Derived.Maps.OwnSet
import Derived.Maps.OwnIn
namespace Go.Proofs.YtojgopbaiflfgaaGreatDoor
set_option maxRecDepth 100000
open Go.RowKit Go.Shelf Go.Instr

/-- A kind of keys: how a key is a value, and that the model tells two of them apart at once. -/
structure KeyK (κ : Type) [DecidableEq κ] (P : Program) (kt : TypeId) where
  kv : κ → Value
  desc : TypeDesc
  und : P.underlying kt = some desc
  same : ∀ a b, sameNow desc (kv a) (kv b) = some (decide (a = b))
  chk : ∀ e a (w : World), (checkKey e 10000 kt (kv a)).run P w = .ok () w
  bits : ∀ a, sameBits 10000 (kv a) (kv a) = true

theorem run_checkKey_int {P : Program} {kt : TypeId} {k : IntKind} (hu : P.underlying kt = some (.int k)) (v : Value) (w : World) (e : Bool) : (checkKey e 10000 kt v).run P w = .ok () w := by
  unfold checkKey
  rw [Sem.run_bind, run_underlying hu]
  rfl
theorem run_checkKey_string {P : Program} {kt : TypeId} (hu : P.underlying kt = some .string) (v : Value) (w : World) (e : Bool) : (checkKey e 10000 kt v).run P w = .ok () w := by
  unfold checkKey
  rw [Sem.run_bind, run_underlying hu]
  rfl
theorem bytes_beq (a b : ByteArray) : (a == b) = decide (a = b) := by
  rw [Bool.eq_iff_iff]
  have : (a == b) = (a.data == b.data) := rfl
  rw [this]
  simp [ByteArray.ext_iff]

def intKey {P : Program} {kt : TypeId} (hu : P.underlying kt = some (.int .i64)) : KeyK Int P kt where
  kv := Value.int .i64
  desc := .int .i64
  und := hu
  same := fun a b => by simp [sameNow]; rfl
  chk := fun e a w => run_checkKey_int hu _ w e
  bits := fun a => by simp [sameBits]

def strKey {P : Program} {kt : TypeId} (hu : P.underlying kt = some .string) : KeyK ByteArray P kt where
  kv := Value.string
  desc := .string
  und := hu
  same := fun a b => by simp [sameNow, bytes_beq]
  chk := fun e a w => run_checkKey_string hu _ w e
  bits := fun a => by simp [sameBits, bytes_beq]

section lists
variable {κ : Type} [DecidableEq κ]
/-- The place and the element of a key, counted from i. -/
def ixL (k : κ) : List (κ × Value) → Nat → Option (Nat × Value)
  | [], _ => none
  | (a, v) :: r, i => if k = a then some (i, v) else ixL k r (i + 1)
def lookL (k : κ) : List (κ × Value) → Option Value
  | [] => none
  | (a, v) :: r => if k = a then some v else lookL k r
def putL (k : κ) (v : Value) : List (κ × Value) → List (κ × Value)
  | [] => [(k, v)]
  | (a, u) :: r => if k = a then (a, v) :: r else (a, u) :: putL k v r

theorem ixL_look (k : κ) : ∀ (l : List (κ × Value)) (i : Nat), (ixL k l i).map (·.2) = lookL k l
  | [], _ => rfl
  | (a, v) :: r, i => by
    simp only [ixL, lookL]
    split
    · rfl
    · exact ixL_look k r (i + 1)
theorem ixL_some {k : κ} : ∀ {l : List (κ × Value)} {i j : Nat} {v : Value}, ixL k l i = some (j, v) → ∃ m, j = i + m ∧ l[m]? = some (k, v) ∧ ∀ u, putL k u l = l.set m (k, u)
  | [], _, _, _, h => by cases h
  | (a, u) :: r, i, j, v, h => by
    simp only [ixL] at h
    split at h
    · rename_i e
      subst e
      cases h
      exact ⟨0, by omega, rfl, fun u' => by simp [putL]⟩
    · rename_i e
      obtain ⟨m, h1, h2, h3⟩ := ixL_some h
      exact ⟨m + 1, by omega, by simpa using h2, fun u' => by simp [putL, e, h3]⟩
theorem ixL_none {k : κ} : ∀ {l : List (κ × Value)} {i : Nat}, ixL k l i = none → ∀ u, putL k u l = l ++ [(k, u)]
  | [], _, _, u => rfl
  | (a, v) :: r, i, h, u => by
    simp only [ixL] at h
    split at h
    · cases h
    · rename_i e
      simp only [putL, if_neg e, ixL_none h u, List.cons_append]
theorem look_put (k k' : κ) (v : Value) : ∀ l : List (κ × Value), lookL k' (putL k v l) = if k' = k then some v else lookL k' l
  | [] => by simp [putL, lookL]
  | (a, u) :: r => by
    simp only [putL]
    split
    · rename_i e
      subst e
      simp only [lookL]
      split <;> simp_all
    · rename_i e
      simp only [lookL, look_put k k' v r]
      split
      · rename_i e'
        subst e'
        rw [if_neg (fun h => e h.symm)]
      · rfl
theorem keys_put (k : κ) (v : Value) : ∀ l : List (κ × Value), (putL k v l).map (·.1) = if lookL k l = none then l.map (·.1) ++ [k] else l.map (·.1)
  | [] => rfl
  | (a, u) :: r => by
    simp only [putL, lookL]
    split
    · rename_i e
      simp
    · simp only [List.map_cons, keys_put k v r]
      split <;> simp
theorem look_mem {k : κ} : ∀ {l : List (κ × Value)}, lookL k l = none ↔ k ∉ l.map (·.1)
  | [] => by simp [lookL]
  | (a, v) :: r => by
    simp only [lookL, List.map_cons, List.mem_cons, not_or]
    split
    · rename_i e; simp [e]
    · rename_i e; simp [e, look_mem (l := r)]
end lists

section
variable {κ : Type} [DecidableEq κ] {P : Program} {kt : TypeId}
/-- Block b is a map that holds just these keys and elements, in this order. -/
def MapIs (K : KeyK κ P kt) (w : World) (b : Nat) (l : List (κ × Value)) : Prop :=
  ∃ es clock, w.heap[b]? = some (.map es clock) ∧ es.toList.map (fun e => (e.key, e.val)) = l.map (fun p => (K.kv p.1, p.2))

theorem findNow_ix (K : KeyK κ P kt) (k : κ) : ∀ (es : List MapEntry) (l : List (κ × Value)) (i : Nat), es.map (fun e => (e.key, e.val)) = l.map (fun p => (K.kv p.1, p.2)) → findNow K.desc (K.kv k) es i = some (ixL k l i)
  | [], [], _, _ => rfl
  | [], _ :: _, _, h => by cases h
  | _ :: _, [], _, h => by cases h
  | e :: es, (a, v) :: l, i, h => by
    simp only [List.map_cons, List.cons.injEq, Prod.mk.injEq] at h
    obtain ⟨⟨h1, h2⟩, h3⟩ := h
    simp only [findNow, ixL, h1, K.same]
    by_cases hk : k = a
    · simp [hk, h2]
    · simp only [decide_eq_false hk, if_neg hk]
      exact findNow_ix K k es l (i + 1) h3

variable {K : KeyK κ P kt} {w : World} {b : Nat} {l : List (κ × Value)}
theorem MapIs.kept {w' : World} {row : Option Nat} (h : MapIs K w b l) (hg : w.grownBy w' row) (hne : some b ≠ row) : MapIs K w' b l := by
  obtain ⟨es, clock, h1, h2⟩ := h
  exact ⟨es, clock, (hg.block b (Array.getElem?_eq_some_iff.1 h1).1 hne).trans h1, h2⟩
theorem MapIs.lt (h : MapIs K w b l) : b < w.heap.size := by
  obtain ⟨es, clock, h1, h2⟩ := h
  exact (Array.getElem?_eq_some_iff.1 h1).1
theorem MapIs.below {B : Nat} {w' : World} (h : MapIs K w b l) (hb : Below B w w') (hB : b < B) : MapIs K w' b l := by
  obtain ⟨es, clock, h1, h2⟩ := h
  exact ⟨es, clock, (hb.block b hB).trans h1, h2⟩
theorem MapIs.alloc (h : MapIs K w b l) (o : Obj) : MapIs K (w.alloc o) b l := h.kept (World.grownBy_alloc w o none) (by simp)
theorem MapIs.drewN (h : MapIs K w b l) (n : Nat) : MapIs K (w.drewN n) b l := h
theorem MapIs.made (K : KeyK κ P kt) (w : World) : MapIs K (w.alloc (.map #[] 0)) w.heap.size [] := ⟨#[], 0, World.alloc_heap_new w _, rfl⟩
theorem MapIs.setCell (h : MapIs K w b l) (a : Addr) (u : Value) : MapIs K (w.setCell a u) b l := by
  obtain ⟨es, clock, h1, h2⟩ := h
  exact ⟨es, clock, (KeepsOthers.setCell w a u).same b _ h1 rfl, h2⟩

theorem run_getMap {P : Program} {w : World} {b : Nat} {es : Array MapEntry} {clock : Nat} (h : w.heap[b]? = some (.map es clock)) : (getObj b).run P w = .ok (.map es clock) w := by
  simp [getObj, Sem.run, h]

theorem MapIs.look {t e : TypeId} (h : MapIs K w b l) (ht : P.underlying t = some (.map kt e)) {z : Value} (hz : ∀ w : World, (zeroValue e).run P w = .ok z w) (k : κ) (ok : Bool) :
    (Instr.lookup t (.map (some b)) (K.kv k) ok).run P w = .ok (if ok then .tuple #[(lookL k l).getD z, .bool (lookL k l).isSome] else (lookL k l).getD z) w := by
  obtain ⟨es, clock, h1, h2⟩ := h
  have hf := findNow_ix K k es.toList l 0 h2
  have hl := ixL_look k l 0
  unfold Instr.lookup
  simp only [Sem.run_bind, run_underlying ht, Result.andThen, run_getMap h1, Sem.run_pure, K.chk, findKey, run_underlying K.und, hf]
  cases hx : ixL k l 0 with
  | none =>
    rw [hx] at hl
    simp only [Option.map_none] at hl
    cases ok <;> simp [← hl, hz, Result.andThen]
  | some p =>
    obtain ⟨j, v⟩ := p
    rw [hx] at hl
    simp only [Option.map_some] at hl
    cases ok <;> simp [← hl, Sem.run_pure]

theorem modify_map {α β : Type} (f : α → α) (g : α → β) (c : β) : ∀ (l : List α) (i : Nat), (∀ x ∈ l, g (f x) = c) → (l.modify i f).map g = (l.map g).set i c
  | [], i, _ => by simp
  | x :: l, 0, h => by simp [h x (List.mem_cons_self ..)]
  | x :: l, i + 1, h => by simp [modify_map f g c l i (fun y hy => h y (List.mem_cons_of_mem _ hy))]

theorem MapIs.store {t e : TypeId} (h : MapIs K w b l) (ht : P.underlying t = some (.map kt e)) (k : κ) (v : Value) :
    ∃ w', (Instr.mapUpdate t (.map (some b)) (K.kv k) v).run P w = .ok () w' ∧ MapIs K w' b (putL k v l) ∧ w.grownBy w' (some b) := by
  obtain ⟨es, clock, h1, h2⟩ := h
  have hb := (Array.getElem?_eq_some_iff.1 h1).1
  have hf := findNow_ix K k es.toList l 0 h2
  have hset : ∀ o : Obj, (setObj b o).run P w = .ok () (w.putObj b o) := fun o => by simp [setObj, Sem.run, h1, World.putObj]
  unfold Instr.mapUpdate
  simp only [Sem.run_bind, run_underlying ht, Result.andThen, run_getMap h1, Sem.run_pure, K.chk, findKey, run_underlying K.und, hf]
  cases hx : ixL k l 0 with
  | none =>
    simp only [hset]
    refine ⟨_, rfl, ⟨_, _, World.putObj_heap_same hb, ?_⟩, grownBy_putObj' w b _⟩
    rw [ixL_none hx]
    simp [h2]
  | some p =>
    obtain ⟨j, v0⟩ := p
    obtain ⟨m, hm, hlm, hput⟩ := ixL_some hx
    obtain rfl : j = m := by omega
    have hkey : ((es[j]?).map (·.key)).getD (K.kv k) = K.kv k := by
      have := congrArg (fun x => x[j]?) h2
      simp only [List.getElem?_map, hlm, Option.map_some, Array.getElem?_toList] at this
      cases hj : es[j]? with
      | none => rfl
      | some e =>
        rw [hj] at this
        simp at this
        simpa using this.1
    simp only [hkey, keyThatStays, K.bits, if_true, Sem.run_bind, Sem.run_pure, Result.andThen, hset]
    refine ⟨_, rfl, ⟨_, _, World.putObj_heap_same hb, ?_⟩, grownBy_putObj' w b _⟩
    rw [hput, Array.toList_modify, modify_map (fun e : MapEntry => { key := K.kv k, val := v, born := e.born }) (fun e => (e.key, e.val)) (K.kv k, v) _ _ (fun _ _ => rfl), h2, List.map_set]

/-- A store at its operation. -/
theorem wpList_store {ops : Array Oper} {rest : List Oper} {o : Oper} {a : Act} {Q : Exit → Act → World → Prop}
    (hg : o.guard = none) (m x v : Operand) (t : TypeId) (hop : o.op = Op.mapUpdate t m x v) {e : TypeId} (ht : P.underlying t = some (.map kt e))
    (hm : a.eval m = .map (some b)) (h : MapIs K w b l) (k : κ) (hx : a.eval x = K.kv k)
    (hK : ∀ w', MapIs K w' b (putL k (a.eval v) l) → w.grownBy w' (some b) → wpList P ops Q rest (a.put o.dst undef) w') :
    wpList P ops Q (o :: rest) a w := by
  refine wpList_plain hg fun K' hK' => ?_
  obtain ⟨w', hrun, r1, r2⟩ := h.store ht k (a.eval v)
  unfold Oper.wp
  simp [execOp, hop, hm, hx, hrun, Result.andThen]
  exact hK' _ _ (hK w' r1 r2)
end
end Go.Proofs.YtojgopbaiflfgaaGreatDoor
