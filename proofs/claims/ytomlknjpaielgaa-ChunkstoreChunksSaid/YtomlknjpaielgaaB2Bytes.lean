/- Arrays inside a region that draws; four bytes appended; the digest of a string by blocks. No condition but small sizes. -/
import Derived.Test.YtomlknjpaielgaaB2RefComp
import Derived.Test.YtomlknjpaielgaaBytes
import Derived.Test.YtomlknjpaielgaaRepeat
import Derived.Test.YtomlknjpaielgaaStrs
import Derived.Test.YtomlknjpaielgaaClass
import Derived.Deep.RegionLaw
namespace Go.Proofs.Ytomlknjpaielgaa
set_option maxRecDepth 100000
open Go.RowKit Go.Shelf Go.Proofs.Ytomlknjpaielgaa.B2

theorem step_load_arr {P : Program} {ops : Array Oper} {o : Oper} {a : Act} {w : World} {K : Act → World → Prop} {Q : Exit → Act → World → Prop} {E : Prop} (hgd : o.guard = none) (ty : TypeId) (x : Operand) (ho : o.op = .load ty x) (g : Nat) (t : TypeId) (xs : List Value) (hx : a.eval x = .pointer (some ⟨g, 0, none⟩)) (hg : Arr w g t xs)
    (n : Nat) (e : TypeId) (hu : P.underlying ty = some (.array n e)) (hi : (P.info? ty).map (·.size) = some xs.length) (h : K (a.put o.dst (.agg xs.toArray)) w) : if Region.wanted o (yielded ops a.tmps) = true then Oper.wp P o a w K Q else E := by
  rw [if_pos (by simp [Region.wanted, hgd])]
  exact wp_load_row ty x ho g hx t _ (0, 0) _ hg hu rfl (by simpa using hi) h
theorem step_store_arr {P : Program} {ops : Array Oper} {o : Oper} {a : Act} {w : World} {K : Act → World → Prop} {Q : Exit → Act → World → Prop} {E : Prop} (hgd : o.guard = none) (ty : TypeId) (x y : Operand) (ho : o.op = .store ty x y) (g : Nat) (t : TypeId) (xs ys : List Value) (hx : a.eval x = .pointer (some ⟨g, 0, none⟩)) (hy : a.eval y = .agg ys.toArray)
    (hg : Arr w g t xs) (hi : (P.info? ty).map (·.size) = some ys.length) (hl : xs.length = ys.length) (h1 : ∀ v ∈ ys, v.oneCell' = true)
    (h : ∀ w', Arr w' g t ys → w.grownBy w' (some g) → K (a.put o.dst undef) w') : if Region.wanted o (yielded ops a.tmps) = true then Oper.wp P o a w K Q else E := by
  rw [if_pos (by simp [Region.wanted, hgd])]
  exact wp_store_row ty x y ho g ys.toArray hx hy t _ hg (by simpa using hi) (by simpa using hl) (by rw [Array.all_eq_true_iff_forall_mem]; intro v hv; exact h1 v (by simpa using hv)) (h _ (setRow_arr hg ys) (setRow_grown _))

/-- The strings one after the other. -/
def cat (l : List ByteArray) : List UInt8 := l.flatMap (·.data.toList)
theorem join_nil (ls : List (List UInt8)) : Lib.join ls [] = ls.flatten := by
  cases ls with
  | nil => rfl
  | cons a r => rw [Lib.join_cons, Lib.joinTail]; simp
theorem join_any {w : World} {v : Value} {l : List ByteArray} (h : Strs w v l) (hn : l.length ≤ 1000000) (ht : (cat l).length ≤ 1000000) :
    Calls Try.prog 37 #[v, .string ⟨#[]⟩] w fun e w' => e = .returned (.string (mkS (cat l))) ∧ Below w.heap.size w w' := by
  have hj : Lib.join (l.map (·.data.toList)) [] = cat l := by rw [join_nil, cat, List.flatMap_def]
  by_cases he : l = []
  · subst he
    obtain ⟨a, c, rfl, _⟩ := h.nil_cases
    exact (Try.strings_Join_none a c ⟨#[]⟩ w).mono fun e w' hh => ⟨hh.1, by rw [hh.2]; exact Below.refl _ _⟩
  · obtain ⟨b, o, c, rfl, h1, _, h3, h4⟩ := h.cons_cases he
    refine (Try.strings_Join b o c l ⟨#[]⟩ w (fun j x hx => h4 j x hx) h3 (by omega) h1 (by show (Lib.join _ []).length ≤ _; rw [hj]; omega)).mono ?_
    rintro e w' ⟨rfl, hb⟩
    refine ⟨?_, hb⟩
    show Ending.returned (.string ⟨(Lib.join (l.map (·.data.toList)) []).toArray⟩) = _
    rw [hj]; rfl

theorem extract_list (s : ByteArray) (n m : Nat) : (s.extract n m).data.toList = (s.data.toList.drop n).take (m - n) := by
  rw [Lib.extract_eq]
theorem full_more {n k : Nat} (h : 64 < (n : Int) - 64 * k) : k + 1 ≤ full n := by unfold full; omega
theorem full_done {n k : Nat} (h : ¬ 64 < (n : Int) - 64 * k) (hk : k ≤ full n) : k = full n := by unfold full at *; omega
theorem full_le {n k : Nat} (h : k ≤ full n) : 64 * k ≤ n := by unfold full at h; omega

/-- The last block, filled up. -/
theorem last_list (s : ByteArray) (k : Nat) (hk : k = full s.size) :
    (s.extract (64 * k) s.size).data.toList ++ List.replicate (64 - (s.size - 64 * k)) 0 = lastBlock s.data.toList := by
  rw [extract_list, List.take_of_length_le (by simp), lastBlock, hk]
  have : s.data.toList.length = s.size := by simp
  rw [this]
theorem last_size (s : ByteArray) : (lastBlock s.data.toList).length = 64 := by
  unfold lastBlock full
  simp only [List.length_append, List.length_drop, List.length_replicate]
  omega

section
variable {w0 wr : World} {ops : Array Oper} {rest : List Oper} {o : Oper} {a : Act} {Q : Exit → Act → World → Prop}
/-- An append of some bytes, that lie in a new block. -/
theorem wpList_append_some (hgd : o.guard = none) (s x : Operand) (ho : o.op = .call { callee := .builtin .append, args := #[s, x], argTypes := #[57, 57] })
    {v : Value} {l : List UInt8} (hs : a.eval s = v) (hown : OwnBytes w0 wr v l) (hbel : Below w0.heap.size w0 wr) {bs : List UInt8} (cells : List Value) (hc : cells = Lib.byteCells bs) (hx : a.eval x = .slice (some ⟨wr.heap.size, 0, none⟩) bs.length bs.length) (hne : bs ≠ []) (hn : l.length + bs.length ≤ 100000000)
    (h : ∀ v' w', OwnBytes w0 w' v' (l ++ bs) → Below w0.heap.size w0 w' → wpList Try.prog ops Q rest (a.put o.dst v') w') : wpList Try.prog ops Q (o :: rest) a (wr.alloc (.cells cells.toArray 5)) := by
  subst hc
  obtain ⟨i0, hi, hz0, hz1, hz2⟩ := info_parts Try.infoByteB
  obtain ⟨g, cap, rfl, hrow⟩ := hown
  have hsz := hbel.size
  refine wpList_append_own _ hgd s x 57 ho w0.heap.size 5 i0 (.int .u8 0) 1 1 Try.underlying57 hi hz0 hz1 hz2 rfl (by decide) _ _ _ hs (hrow.alloc _) ⟨wr.heap.size, 0, none⟩ bs.length bs.length (Lib.byteCells bs) hx (by simp [Lib.byteCells]) (Arr.new wr _ (Lib.byteCells bs)).src (by simp [Lib.byteCells, Value.oneCell']) (by unfold maxLen; omega) (by omega) (by simp; omega) ?_
  intro v' w' hown' hgrow hiff
  have hcb : Lib.byteCells (l ++ bs) = Lib.byteCells l ++ Lib.byteCells bs := by simp [Lib.byteCells]
  have hl : (l ++ bs).length = l.length + bs.length := by simp
  refine h v' w' ?_ ((hbel.alloc hsz _).grown hgrow (by simp; omega) (fun k hk => (hrow.lt k hk).1))
  rcases hown'.2 with ⟨hv, hv0⟩ | ⟨g', cap', cur, hv, _⟩
  · have := List.length_pos_iff.2 hne
    omega
  · exact ⟨g', cap', by rw [hl]; exact hv, by rw [hl, hcb]; exact hown'⟩
end
theorem flat4_length (l : List W) : (l.flatMap bytes4).length = 4 * l.length := by
  induction l with
  | nil => rfl
  | cons x l ih => rw [List.flatMap_cons, List.length_append, ih]; simp [bytes4]; omega
theorem take_bytes (z : List W) {k : Nat} (h : k < z.length) : (z.take (k + 1)).flatMap bytes4 = (z.take k).flatMap bytes4 ++ bytes4 (z.getD k 0) := by
  rw [List.take_add_one, List.flatMap_append, List.getD_eq_getElem?_getD, List.getElem?_eq_getElem h]
  simp
theorem byte_of (n : Nat) : ((UInt8.ofNat n).toNat : Int) = (n : Int) % 256 := by rw [UInt8.toNat_ofNat']; omega
theorem cells4 (x : W) : [Value.int .u8 (W32 x % 256), Value.int .u8 (W32 x / 256 % 256), Value.int .u8 (W32 x / 65536 % 256), Value.int .u8 (W32 x / 16777216 % 256)] = Lib.byteCells (bytes4 x) := by
  simp only [Lib.byteCells, bytes4, List.map_cons, List.map_nil, byte_of]
  unfold W32
  simp
theorem run_index_word (z : List W) (hz : z.length = 8) (i : Nat) (hi : i < 8) (w : World) : (Instr.index 78 (.agg (wvs z).toArray) (.int .i64 i)).run Try.prog w = .ok (.int .u32 (W32 (z.getD i 0))) w := by
  have hu : Try.prog.underlying 78 = some (.array 8 77) := Try.underlying78
  have hp : Try.prog.plainKey 77 = true := by kernel_rfl
  have hv : (wvs z).toArray[i * 1]? = some (.int .u32 (W32 (z.getD i 0))) := by
    rw [Nat.mul_one, List.getElem?_toArray]
    exact wvs_get (by omega)
  have hc : Try.prog.cellsOf 77 = 1 := by kernel_rfl
  obtain ⟨j, hj, _⟩ := Option.map_eq_some_iff.1 Try.infoU32
  have hso := run_sizeOf (w := w) hj
  have := run_part_plain (w := w) hp hv
  simp [Instr.index, asIntOf, run_underlying hu, hi, hso, hc]
  simpa using this
end Go.Proofs.Ytomlknjpaielgaa
