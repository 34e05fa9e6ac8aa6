/- Chunk stores in plain Lean: extents, their merging, storing a content. No program in sight. -/
import Derived.Test.YtomlknjpaielgaaChunkSplit
import Derived.Test.YtomlknjpaielgaaSparseMath
import Derived.Test.YtomlknjpaielgaaB2Math
namespace Go.Proofs.Ytomlknjpaielgaa.Store
set_option maxRecDepth 100000
open Go.Proofs.Ytomlknjpaielgaa Go.Proofs.Ytomlknjpaielgaa.Sparse

/-- An extent: session, offset, length. -/
abbrev Ext := Int × Int × Int
/-- A chunk: its digest, its extent. -/
abbrev Chk := ByteArray × Ext

def find (d : ByteArray) : List Chk → Option Ext
  | [] => none
  | c :: l => if c.1 = d then some c.2 else find d l
theorem find_append (d : ByteArray) (l m : List Chk) : find d (l ++ m) = (find d l).or (find d m) := by
  induction l with
  | nil => simp [find]
  | cons c l ih =>
    simp only [List.cons_append, find]
    split
    · simp
    · exact ih
theorem find_mem {d : ByteArray} {x : Ext} : ∀ {l : List Chk}, find d l = some x → (d, x) ∈ l
  | [], h => by cases h
  | c :: l, h => by
    simp only [find] at h
    split at h
    · rename_i e
      cases h
      subst e
      exact List.mem_cons_self ..
    · exact List.mem_cons_of_mem _ (find_mem h)
theorem find_take_some {d : ByteArray} {l : List Chk} {k : Nat} {x : Ext} (h : find d (l.take k) = some x) : find d l = some x := by
  have := find_append d (l.take k) (l.drop k)
  rw [List.take_append_drop, h] at this
  simpa using this

/-- Does x go on where y ends? -/
def joins (y x : Ext) : Bool := decide (x.1 ≠ 0) && (decide (y.1 = x.1) && decide (y.2.1 + y.2.2 = x.2.1))
def grow (y x : Ext) : Ext := (y.1, y.2.1, y.2.2 + x.2.2)
/-- An extent appended, merged with the last one where it goes on. -/
def addE (l : List Ext) (x : Ext) : List Ext :=
  match l.getLast? with
  | none => [x]
  | some y => if joins y x then l.dropLast ++ [grow y x] else l ++ [x]
theorem addE_nil (x : Ext) : addE [] x = [x] := rfl
theorem addE_snoc (l : List Ext) (y x : Ext) : addE (l ++ [y]) x = if joins y x then l ++ [grow y x] else l ++ [y] ++ [x] := by
  simp [addE]
def BIG : Int := 1000000
/-- An extent within bounds. -/
def FineE (k : Nat) (x : Ext) : Prop := 0 ≤ x.2.1 ∧ x.2.1 ≤ 1000000 ∧ 0 ≤ x.2.2 ∧ x.2.2 ≤ 1000000 * k
theorem FineE.mono {k m : Nat} {x : Ext} (h : FineE k x) (hk : k ≤ m) : FineE m x := by
  obtain ⟨a, b, c, d⟩ := h
  exact ⟨a, b, c, by have : 1000000 * (k : Int) ≤ 1000000 * (m : Int) := by omega
                     omega⟩
theorem fine_addE {l : List Ext} {k : Nat} {x : Ext} (hl : ∀ y ∈ l, FineE k y) (hx : FineE 1 x) : ∀ y ∈ addE l x, FineE (k + 1) y := by
  have hx' : FineE (k + 1) x := hx.mono (by omega)
  rcases List.eq_nil_or_concat l with rfl | ⟨l', y, rfl⟩
  · intro z hz
    rw [addE_nil, List.mem_singleton] at hz
    subst hz; exact hx'
  · rw [List.concat_eq_append] at hl ⊢
    rw [addE_snoc]
    split
    · intro z hz
      rcases List.mem_append.1 hz with h | h
      · exact (hl z (List.mem_append_left _ h)).mono (by omega)
      · rw [List.mem_singleton] at h
        subst h
        obtain ⟨a, b, c, d⟩ := hl y (List.mem_append_right _ (by simp))
        obtain ⟨a', b', c', d'⟩ := hx
        refine ⟨a, b, ?_, ?_⟩ <;> simp only [grow] <;> omega
    · intro z hz
      rcases List.mem_append.1 hz with h | h
      · exact (hl z h).mono (by omega)
      · rw [List.mem_singleton] at h
        subst h; exact hx'
theorem length_addE (l : List Ext) (x : Ext) : (addE l x).length ≤ l.length + 1 := by
  rcases List.eq_nil_or_concat l with rfl | ⟨l', y, rfl⟩
  · simp [addE_nil]
  · rw [List.concat_eq_append, addE_snoc]
    split <;> simp
theorem addE_ne (l : List Ext) (x : Ext) : addE l x ≠ [] := by
  rcases List.eq_nil_or_concat l with rfl | ⟨l', y, rfl⟩
  · simp [addE_nil]
  · rw [List.concat_eq_append, addE_snoc]
    split <;> simp

/-- What a content's storing has come to: the known chunks, the stream, the extents. -/
abbrev Acc := List Chk × ByteArray × List Ext
def dig (c : ByteArray) : ByteArray := mkS (B2.digest c.data.toList)
def putC (ses : Int) (p : Acc) (c : ByteArray) : Acc :=
  match find (dig c) p.1 with
  | some x => (p.1, p.2.1, addE p.2.2 x)
  | none => (p.1 ++ [(dig c, (ses, (p.2.1.size : Int), (c.size : Int)))], p.2.1 ++ c, addE p.2.2 (ses, (p.2.1.size : Int), (c.size : Int)))
def putS (ses : Int) (p : Acc) (g : Seg) : Acc :=
  if g.2 = [] then (p.1, p.2.1, addE p.2.2 (0, 0, g.1)) else (chunkS g.2).foldl (putC ses) p
def putAll (ses : Int) (cs : List Chk) (st : ByteArray) (content : ByteArray) : Acc := (segs content.data.toList).foldl (putS ses) (cs, st, [])
theorem putC_some {ses : Int} {p : Acc} {c : ByteArray} {x : Ext} (h : find (dig c) p.1 = some x) : putC ses p c = (p.1, p.2.1, addE p.2.2 x) := by
  unfold putC; rw [h]
theorem putC_none {ses : Int} {p : Acc} {c : ByteArray} (h : find (dig c) p.1 = none) :
    putC ses p c = (p.1 ++ [(dig c, (ses, (p.2.1.size : Int), (c.size : Int)))], p.2.1 ++ c, addE p.2.2 (ses, (p.2.1.size : Int), (c.size : Int))) := by
  unfold putC; rw [h]
/-- Bounds that hold on the way: k counts the bytes that may still come. -/
structure Fit (k : Nat) (p : Acc) : Prop where
  chunks : ∀ c ∈ p.1, FineE 1 c.2
  stream : p.2.1.size + k ≤ 1000000
  few : p.1.length + k ≤ 1000000
  outs : p.2.2.length + k ≤ 1000000
  fine : ∀ y ∈ p.2.2, FineE (1000000 - k) y
theorem Fit.hole {k n : Nat} {p : Acc} (h : Fit (k + n) p) (hn : 1 ≤ n) : Fit k (p.1, p.2.1, addE p.2.2 (0, 0, (n : Int))) := by
  have h2 := h.stream
  have h3 := h.few
  have h4 := h.outs
  refine ⟨h.chunks, by show p.2.1.size + k ≤ _; omega, by show p.1.length + k ≤ _; omega, ?_, fun y hy => ?_⟩
  · have := length_addE p.2.2 (0, 0, (n : Int))
    show (addE p.2.2 (0, 0, (n : Int))).length + k ≤ 1000000
    omega
  · exact (fine_addE h.fine (x := (0, 0, (n : Int))) ⟨by simp, by simp, by simp, by simp; omega⟩ y hy).mono (by omega)
theorem Fit.chunk {ses : Int} {k : Nat} {p : Acc} {c : ByteArray} (h : Fit (k + c.size) p) (hc : 1 ≤ c.size) : Fit k (putC ses p c) := by
  have h2 := h.stream
  have h3 := h.few
  have h4 := h.outs
  cases hf : find (dig c) p.1 with
  | some x =>
    rw [putC_some hf]
    have hx := h.chunks _ (find_mem hf)
    refine ⟨h.chunks, by show p.2.1.size + k ≤ _; omega, by show p.1.length + k ≤ _; omega, ?_, fun y hy => ?_⟩
    · have := length_addE p.2.2 x
      show (addE p.2.2 x).length + k ≤ 1000000
      omega
    · exact (fine_addE h.fine hx y hy).mono (by omega)
  | none =>
    rw [putC_none hf]
    have hx : FineE 1 (ses, (p.2.1.size : Int), (c.size : Int)) := ⟨by simp, by simp; omega, by simp, by simp; omega⟩
    refine ⟨fun y hy => ?_, ?_, ?_, ?_, fun y hy => ?_⟩
    · rcases List.mem_append.1 hy with h' | h'
      · exact h.chunks y h'
      · rw [List.mem_singleton] at h'
        subst h'; exact hx
    · show (p.2.1 ++ c).size + k ≤ 1000000
      rw [ByteArray.size_append]; omega
    · show (p.1 ++ [_]).length + k ≤ 1000000
      rw [List.length_append, List.length_singleton]; omega
    · have := length_addE p.2.2 (ses, (p.2.1.size : Int), (c.size : Int))
      show (addE p.2.2 _).length + k ≤ 1000000
      omega
    · exact (fine_addE h.fine hx y hy).mono (by omega)
end Go.Proofs.Ytomlknjpaielgaa.Store
