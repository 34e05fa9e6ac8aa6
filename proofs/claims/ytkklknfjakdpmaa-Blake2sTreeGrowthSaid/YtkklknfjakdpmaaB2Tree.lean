/- The hash tree in plain Lean. No program in sight. -/
import Derived.Test.YtkklknfjakdpmaaB2Math
import Derived.Lib.BitFns
namespace Go.Proofs.Ytkklknfjakdpmaa.B2
open Go.Proofs.Ytkklknfjakdpmaa

/-- How many leaves stand left: the greatest power of two below n (for n from 2 to 64). -/
def cutAt (n : Nat) : Nat := max 1 (min (2 ^ (Lib.bitLen (n - 1) - 1)) (n - 1))
theorem cutAt_pos (n : Nat) : 1 ≤ cutAt n := by unfold cutAt; omega
theorem cutAt_lt {n : Nat} (h : 2 ≤ n) : cutAt n < n := by unfold cutAt; omega
theorem cutAt_le : ∀ n : Fin 65, 2 ≤ n.val → cutAt n.val = 2 ^ (Lib.bitLen (n.val - 1) - 1) ∧ Lib.bitLen (n.val - 1) - 1 < 6 ∧ 1 ≤ Lib.bitLen (n.val - 1) := by decide +kernel
theorem cutAt_pow (e : Nat) (h : e < 6) : cutAt (2 ^ e + 1) = 2 ^ e ∧ cutAt (2 ^ e + 2 ^ e) = 2 ^ e := by
  have : ∀ e : Fin 6, cutAt (2 ^ e.val + 1) = 2 ^ e.val ∧ cutAt (2 ^ e.val + 2 ^ e.val) = 2 ^ e.val := by decide +kernel
  exact this ⟨e, h⟩
/-- The reference's doubling stops there. -/
theorem cutAt_stop : ∀ n : Fin 65, ∀ e : Fin 7, 2 ≤ n.val → 2 ^ e.val < n.val → n.val ≤ 2 * 2 ^ e.val → 2 ^ e.val = cutAt n.val := by decide +kernel
def emptyB : List UInt8 := [101, 109, 112, 116, 121]
def leafB : List UInt8 := [108, 101, 97, 102]
def nodeB : List UInt8 := [110, 111, 100, 101]
def mer (l : List ByteArray) : List UInt8 :=
  if _h : 2 ≤ l.length then digest (nodeB ++ mer (l.take (cutAt l.length)) ++ mer (l.drop (cutAt l.length)))
  else match l with
    | [] => digest emptyB
    | x :: _ => digest (leafB ++ x.data.toList)
termination_by l.length
decreasing_by
  · have := cutAt_lt _h; rw [List.length_take]; omega
  · have := cutAt_pos l.length; rw [List.length_drop]; omega
theorem mer_nil : mer [] = digest emptyB := by rw [mer]; simp
theorem mer_one (x : ByteArray) : mer [x] = digest (leafB ++ x.data.toList) := by rw [mer]; simp
theorem mer_more {l : List ByteArray} (h : 2 ≤ l.length) : mer l = digest (nodeB ++ mer (l.take (cutAt l.length)) ++ mer (l.drop (cutAt l.length))) := by
  rw [mer, dif_pos h]
theorem mer_grow {l : List ByteArray} {e : Nat} (he : e < 6) (hl : l.length = 2 ^ e) (x : ByteArray) : mer (l ++ [x]) = digest (nodeB ++ mer l ++ digest (leafB ++ x.data.toList)) := by
  have h1 : 1 ≤ 2 ^ e := Nat.one_le_two_pow
  rw [mer_more (by simp; omega)]
  have : cutAt (l ++ [x]).length = l.length := by rw [List.length_append, hl]; exact (cutAt_pow e he).1
  rw [this, List.take_left, List.drop_left, mer_one]
theorem mer_both {l m : List ByteArray} {e : Nat} (he : e < 6) (hl : l.length = 2 ^ e) (hm : m.length = 2 ^ e) : mer (l ++ m) = digest (nodeB ++ mer l ++ mer m) := by
  have h1 : 1 ≤ 2 ^ e := Nat.one_le_two_pow
  rw [mer_more (by simp; omega)]
  have : cutAt (l ++ m).length = l.length := by rw [List.length_append, hl, hm]; exact (cutAt_pow e he).2
  rw [this, List.take_left, List.drop_left]
end Go.Proofs.Ytkklknfjakdpmaa.B2
