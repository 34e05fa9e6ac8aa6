/- Array variables: a block read as a list; words of 32 bits in it. The walk's operations on whole arrays. No condition. -/
import Derived.Test.YtojgopbaiflfgaaGreatDoorB2Math
import Derived.Laws.CopyOwn
import Derived.Laws.BitsAllLaws
import Derived.IntWalk
namespace Go.Proofs.YtojgopbaiflfgaaGreatDoor
set_option maxRecDepth 100000
open Go.RowKit Go.Shelf Go.Proofs.YtojgopbaiflfgaaGreatDoor.B2

/-- A word as the walk holds it. -/
def W32 (x : W) : Int := (x.toNat : Int)
def wv (x : W) : Value := .int .u32 (W32 x)
def wvs (l : List W) : List Value := l.map wv
theorem wvs_length (l : List W) : (wvs l).length = l.length := by simp [wvs]
theorem wvs_set (l : List W) (i : Nat) (x : W) : (wvs l).set i (.int .u32 (W32 x)) = wvs (l.set i x) := by simp [wvs, wv, List.map_set]
theorem wvs_get {l : List W} {i : Nat} (h : i < l.length) : (wvs l)[i]? = some (.int .u32 (W32 (l.getD i 0))) := by
  simp [wvs, wv, List.getD_eq_getElem?_getD, h]
theorem wvs_one (l : List W) : ∀ v ∈ wvs l, v.oneCell' = true := by simp [wvs, wv, Value.oneCell']
theorem W32_lo (x : W) : 0 ≤ W32 x := Int.natCast_nonneg _
theorem W32_hi (x : W) : W32 x < 4294967296 := by unfold W32; have := x.isLt; omega
theorem W32_inj {x y : W} (h : W32 x = W32 y) : x = y := by
  unfold W32 at h
  exact BitVec.eq_of_toNat_eq (by omega)
theorem wrap_W32 (x : W) : IntKind.u32.wrap (W32 x) = W32 x := by
  have h1 := W32_lo x
  have h2 := W32_hi x
  rw [IntKind.wrap_u32]; omega
theorem wrap_nat32 (n : Nat) : IntKind.u32.wrap (n : Int) = W32 (BitVec.ofNat 32 n) := by
  rw [IntKind.wrap_u32]; unfold W32; simp
theorem add_W32 (x y : W) : IntKind.u32.wrap (W32 x + W32 y) = W32 (x + y) := by
  rw [IntKind.wrap_u32]; unfold W32; rw [BitVec.toNat_add]; omega
theorem xor_W32 (x y : W) : bits .xor .u32 (W32 x) (W32 y) = W32 (x ^^^ y) := by
  unfold W32; rw [u32_xor_nat _ _ x.isLt y.isLt, BitVec.toNat_xor]
theorem or_W32 (x y : W) : bits .or .u32 (W32 x) (W32 y) = W32 (x ||| y) := by
  unfold W32; rw [u32_or_nat _ _ x.isLt y.isLt, BitVec.toNat_or]
theorem shl_W32 (x : W) (s : Nat) : IntKind.u32.wrap (W32 x * 2 ^ s) = W32 (x <<< s) := by
  rw [IntKind.wrap_u32]; unfold W32
  rw [BitVec.toNat_shiftLeft, Nat.shiftLeft_eq]
  have : ((x.toNat : Int) * 2 ^ s) = ((x.toNat * 2 ^ s : Nat) : Int) := by simp
  rw [this]; omega
theorem shr_W32 (x : W) (s : Nat) : W32 x / 2 ^ s = W32 (x >>> s) := by
  unfold W32
  rw [BitVec.toNat_ushiftRight, Nat.shiftRight_eq_div_pow]
  simp
theorem lit_W32 (n : Nat) (h : n < 4294967296) : (n : Int) = W32 (BitVec.ofNat 32 n) := by
  unfold W32; rw [BitVec.toNat_ofNat, Nat.mod_eq_of_lt h]

/-- The block g holds xs. -/
def Arr (w : World) (g : Nat) (t : TypeId) (xs : List Value) : Prop := w.heap[g]? = some (.cells xs.toArray t (0, 0))
theorem Arr.lt {w : World} {g : Nat} {t : TypeId} {xs : List Value} (h : Arr w g t xs) : g < w.heap.size := (Array.getElem?_eq_some_iff.1 h).1
theorem Arr.cell {w : World} {g : Nat} {t : TypeId} {xs : List Value} (h : Arr w g t xs) (i : Nat) : w.cell? ⟨g, i, none⟩ = xs[i]? := by
  rw [cell_of_row w g i _ t (0, 0) h]; simp
theorem Arr.frozen {w : World} {g : Nat} {t : TypeId} {xs : List Value} (h : Arr w g t xs) (i : Nat) : w.frozen? ⟨g, i, none⟩ = false := frozen_of_row w g i _ t h
theorem Arr.word {w : World} {g : Nat} {t : TypeId} {l : List W} (h : Arr w g t (wvs l)) {i : Nat} (hi : i < l.length) : w.cell? ⟨g, i, none⟩ = some (.int .u32 (W32 (l.getD i 0))) := by
  rw [h.cell, wvs_get hi]
theorem Arr.set {w : World} {g : Nat} {t : TypeId} {xs : List Value} (h : Arr w g t xs) (i : Nat) (u : Value) : Arr (w.setCell ⟨g, i, none⟩ u) g t (xs.set i u) := by
  unfold Arr
  rw [heap_setCell_same w g i _ t u h]
  simp
theorem Arr.setW {w : World} {g : Nat} {t : TypeId} {l : List W} (h : Arr w g t (wvs l)) (i : Nat) (x : W) : Arr (w.setCell ⟨g, i, none⟩ (.int .u32 (W32 x))) g t (wvs (l.set i x)) := by
  rw [← wvs_set]; exact h.set i _
theorem Arr.other {w : World} {g : Nat} {t : TypeId} {xs : List Value} (h : Arr w g t xs) {p : Addr} (hp : g ≠ p.block) (u : Value) : Arr (w.setCell p u) g t xs :=
  (Below.heap_setCell w p u g hp).trans h
theorem Arr.below {B : Nat} {w w' : World} {g : Nat} {t : TypeId} {xs : List Value} (h : Arr w g t xs) (hb : Below B w w') (hB : g < B) : Arr w' g t xs := (hb.block g hB).trans h
theorem Arr.kept {w w' : World} {row : Option Nat} {g : Nat} {t : TypeId} {xs : List Value} (h : Arr w g t xs) (hg : w.grownBy w' row) (hne : some g ≠ row) : Arr w' g t xs := by
  exact (hg.block g h.lt hne).trans h
theorem Arr.drew {w : World} {g : Nat} {t : TypeId} {xs : List Value} (h : Arr w g t xs) : Arr w.drew g t xs := h
theorem Arr.drewN {w : World} {g : Nat} {t : TypeId} {xs : List Value} (h : Arr w g t xs) (n : Nat) : Arr (w.drewN n) g t xs := h
theorem Arr.alloc {w : World} {g : Nat} {t : TypeId} {xs : List Value} (h : Arr w g t xs) (o : Obj) : Arr (w.alloc o) g t xs := by
  exact h.kept (World.grownBy_alloc w o none) (by simp)
theorem Arr.new (w : World) (t : TypeId) (xs : List Value) : Arr (w.alloc (.cells xs.toArray t)) w.heap.size t xs := heap_alloc_new w _
theorem setRow_grown {w : World} {g : Nat} (cs : Array Value) : w.grownBy (w.setRow g cs) (some g) :=
  ⟨rfl, rfl, rfl, by simp [World.setRow], fun k _ hk => setRow_other w g k cs (fun e => hk (by rw [e]))⟩
theorem setRow_arr {w : World} {g : Nat} {t : TypeId} {xs : List Value} (h : Arr w g t xs) (ys : List Value) : Arr (w.setRow g ys.toArray) g t ys := by
  have h' : w.heap[g]? = some (.cells xs.toArray t (0, 0)) := h
  show (w.heap.modify g _)[g]? = _
  rw [Array.getElem?_modify, if_pos rfl, h']
  rfl
section
variable {P : Program} {ops : Array Oper} {rest : List Oper} {o : Oper} {a : Act} {w : World} {Q : Exit → Act → World → Prop}
theorem wpList_load_arr (hgd : o.guard = none) (ty : TypeId) (x : Operand) (ho : o.op = .load ty x) (g : Nat) (t : TypeId) (xs : List Value) (hx : a.eval x = .pointer (some ⟨g, 0, none⟩)) (hg : Arr w g t xs)
    (n : Nat) (e : TypeId) (hu : P.underlying ty = some (.array n e)) (hi : (P.info? ty).map (·.size) = some xs.length) (h : wpList P ops Q rest (a.put o.dst (.agg xs.toArray)) w) : wpList P ops Q (o :: rest) a w :=
  wpList_load_row hgd ty x ho g hx t _ (0, 0) _ hg hu rfl (by simpa using hi) h
theorem wpList_store_arr (hgd : o.guard = none) (ty : TypeId) (x y : Operand) (ho : o.op = .store ty x y) (g : Nat) (t : TypeId) (xs ys : List Value) (hx : a.eval x = .pointer (some ⟨g, 0, none⟩)) (hy : a.eval y = .agg ys.toArray)
    (hg : Arr w g t xs) (hi : (P.info? ty).map (·.size) = some ys.length) (hl : xs.length = ys.length) (h1 : ∀ v ∈ ys, v.oneCell' = true)
    (h : ∀ w', Arr w' g t ys → w.grownBy w' (some g) → wpList P ops Q rest (a.put o.dst undef) w') : wpList P ops Q (o :: rest) a w :=
  wpList_store_row hgd ty x y ho g ys.toArray hx hy t _ hg (by simpa using hi) (by simpa using hl) (by rw [Array.all_eq_true_iff_forall_mem]; intro v hv; exact h1 v (by simpa using hv))
    (h _ (setRow_arr hg ys) (setRow_grown _))
end
end Go.Proofs.YtojgopbaiflfgaaGreatDoor
