/- A slice of bytes that the call has made itself: what it holds; appends of a text and of one byte; its conversion to a string. Condition: at most a million bytes. -/
import Derived.Test.YtomlknjpaielgaaBase
import Derived.Lib.AppendStr
import Derived.Lib.UnsafeStr
import Derived.Laws.IdiomStrings
namespace Go.Proofs.Ytomlknjpaielgaa
set_option maxRecDepth 100000
open Go.RowKit Go.Shelf

theorem Try.infoByteB : (Try.prog.info? 5).map (fun i => (i.zero, i.size, i.bytes)) = some (some (.int .u8 0), 1, 1) := by kernel_rfl

/-- v is a slice, made behind w0, that holds the bytes l. -/
def OwnBytes (w0 w : World) (v : Value) (l : List UInt8) : Prop :=
  ∃ g cap, v = .slice (some ⟨g, 0, none⟩) l.length cap ∧ w.ownsRow w0.heap.size 5 1 v l.length (Lib.byteCells l)

theorem OwnBytes.made {w0 w : World} (h : w0.heap.size ≤ w.heap.size) : OwnBytes w0 (w.alloc (.cells #[] 5)) (.slice (some ⟨w.heap.size, 0, none⟩) 0 0) [] :=
  ⟨_, _, rfl, World.ownsRow_made w #[] 0 h (by decide) rfl⟩
theorem OwnBytes.kept {w0 w w' : World} {v : Value} {l : List UInt8} (h : OwnBytes w0 w v l) (hb : Below w.heap.size w w') : OwnBytes w0 w' v l := by
  obtain ⟨g, cap, hv, hown⟩ := h
  refine ⟨g, cap, hv, hown.1, ?_⟩
  rcases hown.2 with h2 | ⟨g, cap, cur, hv, hg, hh, r⟩
  · exact .inl h2
  · exact .inr ⟨g, cap, cur, hv, hg, (hb.block g (Array.getElem?_eq_some_iff.1 hh).1).trans hh, r⟩

section
variable {w0 wr : World} {ops : Array Oper} {rest : List Oper} {o : Oper} {a : Act} {Q : Exit → Act → World → Prop}

/-- An append of a text. -/
theorem wpList_append_text (hgd : o.guard = none) (s x : Operand) (ho : o.op = .call { callee := .builtin .append, args := #[s, x], argTypes := #[57, 9] })
    {v : Value} {l : List UInt8} (hs : a.eval s = v) (hown : OwnBytes w0 wr v l) (hbel : Below w0.heap.size w0 wr) {S : ByteArray} (hx : a.eval x = .string S) (hn : l.length + S.size ≤ 100000000)
    (h : ∀ v' w', OwnBytes w0 w' v' (l ++ S.data.toList) → Below w0.heap.size w0 w' → wpList Try.prog ops Q rest (a.put o.dst v') w') : wpList Try.prog ops Q (o :: rest) a wr := by
  obtain ⟨i0, hi, hz0, hz1, hz2⟩ := info_parts Try.infoByteB
  obtain ⟨g, cap, rfl, hrow⟩ := hown
  have hsz := hbel.size
  refine Lib.wpList_append_own_string _ hgd s x 57 9 ho w0.heap.size 5 i0 Try.underlying57 Try.underlying9 hi hz0 hz1 hz2 _ _ _ hs hrow S hx (by unfold maxLen; omega) (by omega) hsz ?_
  intro v' w' hown' hgrow hiff
  have hc : Lib.byteCells (l ++ S.data.toList) = Lib.byteCells l ++ Lib.strCells S := by simp [Lib.byteCells, Lib.strCells]
  have hl : (l ++ S.data.toList).length = l.length + S.size := by simp
  refine h v' w' ?_ (hbel.grown hgrow hsz (fun k hk => (hrow.lt k hk).1))
  rcases hown'.2 with ⟨hv, _⟩ | ⟨g', cap', cur, hv, _⟩
  · have := (hiff.1 hv).1
    cases this
  · exact ⟨g', cap', by rw [hl]; exact hv, by rw [hl, hc]; exact hown'⟩

/-- An append of one byte, that lies in a new block. -/
theorem wpList_append_byte (hgd : o.guard = none) (s x : Operand) (ho : o.op = .call { callee := .builtin .append, args := #[s, x], argTypes := #[57, 57] })
    {v : Value} {l : List UInt8} (hs : a.eval s = v) (hown : OwnBytes w0 wr v l) (hbel : Below w0.heap.size w0 wr) {n : Int} {c : UInt8} (hc : n = (c.toNat : Int)) (hx : a.eval x = .slice (some ⟨wr.heap.size, 0, none⟩) 1 1) (hn : l.length ≤ 100000000)
    (h : ∀ v' w', OwnBytes w0 w' v' (l ++ [c]) → Below w0.heap.size w0 w' → wpList Try.prog ops Q rest (a.put o.dst v') w') : wpList Try.prog ops Q (o :: rest) a (wr.alloc (.cells #[.int .u8 n] 5)) := by
  subst hc
  obtain ⟨i0, hi, hz0, hz1, hz2⟩ := info_parts Try.infoByteB
  obtain ⟨g, cap, rfl, hrow⟩ := hown
  have hsz := hbel.size
  refine wpList_append_own _ hgd s x 57 ho w0.heap.size 5 i0 (.int .u8 0) 1 1 Try.underlying57 hi hz0 hz1 hz2 rfl (by decide) _ _ _ hs (hrow.alloc _) ⟨wr.heap.size, 0, none⟩ 1 1 [.int .u8 (c.toNat : Int)] hx rfl (cell_one_new _ _ _) (by simp [Value.oneCell']) (by unfold maxLen; omega) (by omega) (by simp; omega) ?_
  intro v' w' hown' hgrow _
  obtain ⟨g', cap', rfl⟩ := ownsRow_succ hown'
  have hcb : Lib.byteCells (l ++ [c]) = Lib.byteCells l ++ [.int .u8 (c.toNat : Int)] := by simp [Lib.byteCells]
  have hl : (l ++ [c]).length = l.length + 1 := by simp
  exact h _ w' ⟨g', cap', by rw [hl], by rw [hl, hcb]; exact hown'⟩ ((hbel.alloc hsz _).grown hgrow (by simp; omega) (fun k hk => (hrow.lt k hk).1))
end

/-- string(b). -/
theorem OwnBytes.run {w0 w : World} {v : Value} {l : List UInt8} (h : OwnBytes w0 w v l) : (convert 57 9 v).run Try.prog w = .ok (.string (mkS l)) w := by
  obtain ⟨g, cap, rfl, hown⟩ := h
  refine run_convert_bytes_back w 57 9 5 ⟨g, 0, none⟩ cap l Try.underlying57 Try.underlying5 Try.underlying9 (fun j hj => ?_)
  rcases hown.2 with ⟨hv, _⟩ | ⟨g', cap', cur, hv, _, hh, hn, hm, hs, ht⟩
  · cases hv
  · simp only [Value.slice.injEq, Option.some.injEq, Addr.mk.injEq] at hv
    obtain ⟨⟨rfl, _⟩, _⟩ := hv
    rw [Addr.add_lit, World.cell?]
    simp only [hh, Nat.zero_add]
    have : (Lib.byteCells l)[j]? = some (.int .u8 (l[j].toNat : Int)) := by simp [Lib.byteCells, List.getElem?_map, List.getElem?_eq_getElem hj]
    rw [← ht, List.getElem?_take] at this
    split at this
    · simpa using this
    · cases this
end Go.Proofs.Ytomlknjpaielgaa
