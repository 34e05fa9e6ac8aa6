/- append(b, make([]byte, n)...) is an append of the text of n zero bytes. Condition: at most a hundred million bytes. -/
import Derived.Test.YtomlknjpaielgaaBytes
namespace Go.Proofs.Ytomlknjpaielgaa
set_option maxRecDepth 100000
open Go.RowKit Go.Shelf

theorem zeroCells_bytes (k : Nat) : Builtin.zeroCells (Value.int .u8 0).cells k = ((mkS (List.replicate k 0)).data.map fun b => Value.int .u8 b.toNat) := by
  apply Array.ext
  · simp [Builtin.zeroCells, Value.cells, mkS]
  · intro i h1 h2
    simp [Builtin.zeroCells, Value.cells, mkS, Nat.mod_one]
theorem run_append_zeros {P : Program} (w : World) (t tn ts ty e : TypeId) (i : TypeInfo) (kq kn : IntKind) (ht : P.underlying t = some (.slice e)) (htn : P.underlying tn = some (.int kn)) (hts : P.underlying ts = some .string) (hi : P.info? e = some i)
    (hz : i.zero = some (.int .u8 0)) (hs : i.size = 1) (hb : i.bytes = 1) (a : Option Addr) (n c k : Nat) (h0 : 0 < k) (hk : k ≤ 100000000) (hn : n ≤ 100000000) (hc : n + k ≤ c ∨ Builtin.nextslicecap (n + k) c ≤ 281474976710656) :
    (Builtin.append_ #[t, tn] ty #[.slice a n c, .int kq k]).run P w = (Builtin.append_ #[t, ts] ty #[.slice a n c, .string (mkS (List.replicate k 0))]).run P w := by
  have hw : IntKind.i64.wrap (k : Int) = k := by rw [IntKind.wrap_i64]; omega
  have hneg : ¬ ((k : Int) < 0) := by omega
  have hbig : ¬ (281474976710656 < (k : Int)) := by omega
  have hk0 : k ≠ 0 := by omega
  have hsz : (mkS (List.replicate k 0)).size = k := by rw [size_mkS, List.length_replicate]
  have hzc := zeroCells_bytes k
  have hex : (Array.map (fun b : UInt8 => Value.int IntKind.u8 (b.toNat : Int)) (mkS (List.replicate k 0)).data).extract 0 k = Array.map (fun b : UInt8 => Value.int IntKind.u8 (b.toNat : Int)) (mkS (List.replicate k 0)).data := by
    apply Array.ext'
    simp only [Array.toList_extract, Array.toList_map, Nat.sub_zero, List.extract_eq_take_drop, List.drop_zero]
    exact List.take_of_length_le (by simp [data_mkS])
  by_cases hnc : n + k ≤ c
  · simp [Builtin.append_, run_underlying ht, run_underlying htn, run_underlying hts, sizeOf, typeInfo, zeroValue, hi, hz, hs, hb, Builtin.lenOf, hw, hneg, hbig, hk0, hsz, hnc, Builtin.firstCells, hzc, hex, asInt, asIntOf]
  · have hfit : ¬ (281474976710656 < Builtin.nextslicecap (n + k) c) := by omega
    have h63 : ¬ (9223372036854775807 < ((n : Int) + (k : Int))) := by omega
    simp [Builtin.append_, run_underlying ht, run_underlying htn, run_underlying hts, sizeOf, typeInfo, zeroValue, hi, hz, hs, hb, Builtin.lenOf, hw, hneg, hbig, hk0, hsz, hnc, Builtin.firstCells, hzc, hex, asInt, asIntOf, hfit, h63, Question.forced]

/-- v is nothing, or a slice made behind base, that holds the bytes l. -/
def OwnB (base : Nat) (w : World) (v : Value) (l : List UInt8) : Prop := w.ownsRow base 5 1 v l.length (Lib.byteCells l)
theorem byteCells_str (s : ByteArray) : Lib.strCells s = Lib.byteCells s.data.toList := by simp [Lib.byteCells, Lib.strCells]
theorem OwnB.below {base : Nat} {w w' : World} {v : Value} {l : List UInt8} (h : OwnB base w v l) (hb : Below w.heap.size w w') : OwnB base w' v l := by
  obtain ⟨h1, h2⟩ := h
  refine ⟨h1, h2.imp id ?_⟩
  rintro ⟨g, cap, cur, rfl, hg, hh, r⟩
  exact ⟨g, cap, cur, rfl, hg, (hb.block g (Array.getElem?_eq_some_iff.1 hh).1).trans hh, r⟩
section
variable {w0 wr : World} {ops : Array Oper} {rest : List Oper} {o : Oper} {a : Act} {Q : Exit → Act → World → Prop}
theorem run_append_textB {w0 w : World} {v : Value} {l : List UInt8} (ty : TypeId) (hown : OwnB w0.heap.size w v l) (hbel : Below w0.heap.size w0 w) (S : ByteArray) (hn : l.length + S.size ≤ 100000000) :
    ∃ v' w', (Builtin.append_ #[57, 9] ty #[v, .string S]).run Try.prog w = .ok v' w' ∧ OwnB w0.heap.size w' v' (l ++ S.data.toList) ∧ Below w0.heap.size w0 w' := by
  obtain ⟨i0, hi, hz0, hz1, hz2⟩ := info_parts Try.infoByteB
  have hsz := hbel.size
  obtain ⟨v', w', h1, h2, h3, _⟩ := Lib.run_append_own_string (P := Try.prog) (w := w) w0.heap.size 57 9 ty 5 i0 Try.underlying57 Try.underlying9 hi hz0 hz1 hz2 v l.length (Lib.byteCells l) hown S (by unfold maxLen; omega) (by omega) hsz
  refine ⟨v', w', h1, ?_, hbel.grown h3 hsz (fun k hk => (World.ownsRow.lt hown k hk).1)⟩
  unfold OwnB
  have hc : Lib.byteCells (l ++ S.data.toList) = Lib.byteCells l ++ Lib.strCells S := by simp [Lib.byteCells, Lib.strCells]
  have hl : (l ++ S.data.toList).length = l.length + S.size := by simp
  rw [hc, hl]
  exact h2
/-- An append of a text. -/
theorem wpList_append_textB (hgd : o.guard = none) (s x : Operand) (ho : o.op = .call { callee := .builtin .append, args := #[s, x], argTypes := #[57, 9] })
    {v : Value} {l : List UInt8} (hs : a.eval s = v) (hown : OwnB w0.heap.size wr v l) (hbel : Below w0.heap.size w0 wr) {S : ByteArray} (hx : a.eval x = .string S) (hn : l.length + S.size ≤ 100000000)
    (h : ∀ v' w', OwnB w0.heap.size w' v' (l ++ S.data.toList) → Below w0.heap.size w0 w' → wpList Try.prog ops Q rest (a.put o.dst v') w') : wpList Try.prog ops Q (o :: rest) a wr := by
  refine wpList_plain hgd fun K hK => ?_
  obtain ⟨v', w', hr, h2, h3⟩ := run_append_textB (w0 := w0) o.type hown hbel S hn
  unfold Oper.wp execOp
  simp only [ho, resolve, invoke, builtin, Sem.run_bind, Sem.run_pure, Result.andThen_ok, List.map_toArray, List.map_cons, List.map_nil, hs, hx, hr]
  exact hK _ _ (h v' w' h2 h3)
/-- An append of zeros. -/
theorem wpList_append_zeros (hgd : o.guard = none) (s x : Operand) (ho : o.op = .call { callee := .builtin .append, args := #[s, x], argTypes := #[57, 3] })
    {v : Value} {l : List UInt8} (hs : a.eval s = v) (hown : OwnB w0.heap.size wr v l) (hbel : Below w0.heap.size w0 wr) {k : Nat} (hx : a.eval x = .int .i64 k) (hk : 0 < k) (hn : l.length + k ≤ 1000000)
    (h : ∀ v' w', OwnB w0.heap.size w' v' (l ++ List.replicate k 0) → Below w0.heap.size w0 w' → wpList Try.prog ops Q rest (a.put o.dst v') w') : wpList Try.prog ops Q (o :: rest) a wr := by
  refine wpList_plain hgd fun K hK => ?_
  obtain ⟨i0, hi, hz0, hz1, hz2⟩ := info_parts Try.infoByteB
  have hform : ∃ b c, v = .slice b l.length c := by
    rcases hown.2 with ⟨hv, hn0⟩ | ⟨g, cap, cur, hv, _⟩
    · exact ⟨none, 0, by rw [hv, hn0]⟩
    · exact ⟨_, cap, hv⟩
  obtain ⟨b, c, rfl⟩ := hform
  have hz : (mkS (List.replicate k 0)).size = k := by rw [size_mkS, List.length_replicate]
  obtain ⟨v', w', hr, h2, h3⟩ := run_append_textB (w0 := w0) o.type hown hbel (mkS (List.replicate k 0)) (by omega)
  rw [data_mkS] at h2
  rw [← run_append_zeros wr 57 3 9 o.type 5 i0 .i64 .i64 Try.underlying57 Try.underlying3 Try.underlying9 hi hz0 hz1 hz2 b l.length c k hk (by omega) (by omega)
    (by by_cases hc : l.length + k ≤ c
        · exact .inl hc
        · exact .inr (by have := growslice_fits (need := l.length + k) (old := c) (bytes := 1) (by omega) (by omega); rwa [Nat.mul_one] at this))] at hr
  unfold Oper.wp execOp
  simp only [ho, resolve, invoke, builtin, Sem.run_bind, Sem.run_pure, Result.andThen_ok, List.map_toArray, List.map_cons, List.map_nil, hs, hx, hr]
  exact hK _ _ (h v' w' h2 h3)
end
/-- string(b). -/
theorem OwnB.run {w0 w : World} {v : Value} {l : List UInt8} (h : OwnB w0.heap.size w v l) : (convert 57 9 v).run Try.prog w = .ok (.string (mkS l)) w := by
  rcases h.2 with ⟨rfl, hn⟩ | ⟨g, cap, cur, rfl, _, hh, hn, hm, hs, ht⟩
  · obtain rfl : l = [] := List.eq_nil_of_length_eq_zero hn
    simp [convert, Conv.bytesToString, run_underlying Try.underlying57, run_underlying Try.underlying9, run_underlying Try.underlying5]
    rfl
  · exact OwnBytes.run (w0 := w0) ⟨g, cap, rfl, h⟩
end Go.Proofs.Ytomlknjpaielgaa
