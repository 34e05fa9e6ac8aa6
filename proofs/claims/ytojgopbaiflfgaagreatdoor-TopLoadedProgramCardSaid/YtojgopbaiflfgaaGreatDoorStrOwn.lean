/- A list of strings in memory of the call's own: made, appended to. Condition: at most a million strings. -/
import Derived.Test.YtojgopbaiflfgaaGreatDoorStrs
import Derived.Test.YtojgopbaiflfgaaGreatDoorSlc
namespace Go.Proofs.YtojgopbaiflfgaaGreatDoor
set_option maxRecDepth 100000
open Go.RowKit Go.Shelf

def strCells (l : List ByteArray) : List Value := l.map Value.string
theorem Strs.made (w : World) (l : List ByteArray) (t : TypeId) (h : l.length ≤ maxLen) : Strs (w.alloc (.cells (strCells l).toArray t)) (.slice (some ⟨w.heap.size, 0, none⟩) l.length l.length) l := by
  refine ⟨_, _, rfl, Nat.le_refl _, h, .inr ⟨w.heap.size, 0, rfl, by simp, fun i s hi => ?_⟩⟩
  have e : (w.alloc (.cells (strCells l).toArray t)).heap[w.heap.size]? = some (.cells (strCells l).toArray t) := World.alloc_heap_new w _
  rw [World.cell?]
  simp only [e, Nat.zero_add]
  simp [strCells, hi]
theorem Strs.nil (w : World) : Strs w (.slice none 0 0) [] := ⟨none, 0, rfl, Nat.le_refl _, by decide, .inl rfl⟩
theorem Strs.slc {w : World} {v : Value} {l : List ByteArray} (h : Strs w v l) : Slc w 1 v l.length (strCells l) := by
  obtain ⟨a, c, rfl, h1, h2, h3⟩ := h
  refine ⟨a, c, rfl, h1, h2, by simp [strCells], ?_⟩
  rcases h3 with rfl | ⟨b, o, rfl, hb, hc⟩
  · exact .inl rfl
  · refine .inr ⟨b, o, rfl, hb, fun j u hu => ?_⟩
    obtain ⟨s, hs, rfl⟩ : ∃ s, l[j]? = some s ∧ Value.string s = u := by simpa [strCells] using hu
    exact hc j s hs
theorem Tryz.infoStrS : (Tryz.prog.info? 9).map (fun i => (i.zero, i.size, i.bytes)) = some (some (.string ⟨#[]⟩), 1, 16) := by kernel_rfl

/-- v lies in blocks from base on and holds l. -/
def OwnStrs (base : Nat) (w : World) (v : Value) (l : List ByteArray) : Prop := w.ownsRow base 9 1 v l.length (strCells l)
theorem OwnStrs.strs {base : Nat} {w : World} {v : Value} {l : List ByteArray} (h : OwnStrs base w v l) : Strs w v l := Strs.of_owns h
theorem OwnStrs.alloc {base : Nat} {w : World} {v : Value} {l : List ByteArray} (h : OwnStrs base w v l) (o : Obj) : OwnStrs base (w.alloc o) v l := World.ownsRow.alloc h o
theorem OwnStrs.nil (base : Nat) (w : World) : OwnStrs base w (.slice none 0 0) [] := ⟨rfl, .inl ⟨rfl, rfl⟩⟩
theorem OwnStrs.made {base : Nat} {w : World} (h : base ≤ w.heap.size) (l : List ByteArray) (hl : l.length ≤ maxLen) : OwnStrs base (w.alloc (.cells (strCells l).toArray 9)) (.slice (some ⟨w.heap.size, 0, none⟩) l.length l.length) l := by
  have := World.ownsRow_lit (e := 9) (size := 1) w (strCells l).toArray l.length h hl (by simp [strCells])
  simpa [OwnStrs] using this
theorem wpList_append_ownstrs {ops : Array Oper} {rest : List Oper} {o : Oper} {a : Act} {w : World} {Q : Exit → Act → World → Prop} (hgd : o.guard = none) (s x : Operand)
    (ho : o.op = .call { callee := .builtin .append, args := #[s, x], argTypes := #[25, 25] })
    {base : Nat} {v : Value} {l : List ByteArray} (hs : a.eval s = v) (hown : OwnStrs base w v l) {u : Value} {m : List ByteArray} (hx : a.eval x = u) (hu : Strs w u m)
    (hn : l.length + m.length ≤ 1000000) (hbase : base ≤ w.heap.size)
    (h : ∀ v' w', OwnStrs base w' v' (l ++ m) → Below base w w' → wpList Tryz.prog ops Q rest (a.put o.dst v') w') : wpList Tryz.prog ops Q (o :: rest) a w := by
  obtain ⟨i0, hi, hz0, hz1, hz2⟩ := info_parts Tryz.infoStrS
  refine wpList_append_slc hgd s x 25 ho base 9 i0 (.string ⟨#[]⟩) 1 16 Tryz.underlying25 hi hz0 hz1 hz2 rfl (by decide) v l.length (strCells l) hs hown u m.length (strCells m) hx hu.slc (by simp [strCells, Value.oneCell']) (by unfold maxLen; omega) (by omega) hbase ?_
  intro v' w' hown' hg _
  refine h v' w' ?_ (below_append (Below.refl _ _) hbase hown (Nat.le_refl _) hg)
  unfold OwnStrs
  rw [List.length_append]
  simpa [strCells] using hown'
end Go.Proofs.YtojgopbaiflfgaaGreatDoor
