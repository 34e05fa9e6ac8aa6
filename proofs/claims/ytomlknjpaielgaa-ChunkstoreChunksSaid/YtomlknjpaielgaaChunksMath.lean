/- A content without holes in an empty store: its distinct chunks, in plain Lean; a set of strings in memory. No condition. -/
import Derived.Test.YtomlknjpaielgaaGet
import Derived.Test.YtomlknjpaielgaaCollides
import Derived.Test.YtomlknjpaielgaaStoreAwake
namespace Go.Proofs.Ytomlknjpaielgaa
set_option maxRecDepth 100000
open Go.RowKit Go.Shelf Go.Proofs.Ytomlknjpaielgaa.Store Go.Proofs.Ytomlknjpaielgaa.Sparse

theorem go_data (a r : List UInt8) : (∀ g ∈ go a r, g.2 ≠ []) → go a r = dataL (a ++ r) := by
  refine go_ind (p := fun a r => (∀ g ∈ go a r, g.2 ≠ []) → go a r = dataL (a ++ r)) ?_ ?_ ?_ a r
  · intro a _; rw [go_nil, List.append_nil]
  · intro a r h _ hg
    rw [go_hole h] at hg
    exact absurd rfl (hg _ (List.mem_append_right _ (List.mem_cons_self ..)))
  · intro a r e h ih hg
    rw [go_step e h] at hg ⊢
    rw [ih hg, List.append_assoc, List.take_append_drop]
theorem segs_data {s : List UInt8} (h : ∀ g ∈ segs s, g.2 ≠ []) : segs s = dataL s := by
  have := go_data [] s h
  rw [List.nil_append] at this
  exact this
theorem putAll_data {ses : Int} {c : ByteArray} (h : ∀ g ∈ segs c.data.toList, g.2 ≠ []) (cs : List Chk) (st : ByteArray) : putAll ses cs st c = (chunkS c.data.toList).foldl (putC ses) (cs, st, []) := by
  unfold putAll
  rw [segs_data h]
  unfold dataL
  split
  · rename_i e
    rw [e]
    simp [chunkS, Chunk.split_nil]
  · rename_i e
    simp [putS, e]
theorem chunksOf_data {c : ByteArray} (h : ∀ g ∈ segs c.data.toList, g.2 ≠ []) : chunksOf c = chunkS c.data.toList := by
  unfold chunksOf
  rw [segs_data h]
  unfold dataL
  split
  · rename_i e
    rw [e]
    simp [chunkS, Chunk.split_nil]
  · simp
instance memStrs (x : ByteArray) (D : List ByteArray) : Decidable (x ∈ D) := decidable_of_iff (D.any (fun d => decide (d = x)) = true) (by simp)
/-- A text that is new is set behind the others. -/
def addNew (D : List ByteArray) (x : ByteArray) : List ByteArray := if x ∈ D then D else D ++ [x]
def distinct (l : List ByteArray) : List ByteArray := l.foldl addNew []
def joinS (D : List ByteArray) : ByteArray := D.foldl (· ++ ·) ⟨#[]⟩
theorem joinS_snoc (D : List ByteArray) (x : ByteArray) : joinS (D ++ [x]) = joinS D ++ x := by simp [joinS]
structure Sames (D : List ByteArray) (p : Acc) : Prop where
  digs : p.1.map (·.1) = D.map dig
  str : p.2.1 = joinS D
theorem find_none_iff (d : ByteArray) : ∀ l : List Chk, find d l = none ↔ d ∉ l.map (·.1)
  | [] => by simp [find]
  | c :: l => by
    simp only [find, List.map_cons, List.mem_cons, not_or]
    split
    · rename_i e; simp [e]
    · rename_i e
      rw [find_none_iff d l]
      exact ⟨fun h => ⟨fun h2 => e h2.symm, h⟩, fun h => h.2⟩
theorem Sames.step {U : ByteArray → Prop} (hU : Inj U) {D : List ByteArray} {p : Acc} {x : ByteArray} {ses : Int} (h : Sames D p) (hx : U x) (hD : ∀ d ∈ D, U d) : Sames (addNew D x) (putC ses p x) ∧ ∀ d ∈ addNew D x, U d := by
  have hiff : find (dig x) p.1 = none ↔ x ∉ D := by
    rw [find_none_iff, h.digs]
    refine not_congr ⟨fun hm => ?_, fun hm => List.mem_map_of_mem hm⟩
    obtain ⟨d, hd, e⟩ := List.mem_map.1 hm
    rw [← hU d x (hD d hd) hx e]
    exact hd
  unfold addNew
  by_cases hm : x ∈ D
  · rw [if_pos hm]
    cases hf : find (dig x) p.1 with
    | none => exact absurd hm (hiff.1 hf)
    | some y => rw [putC_some hf]; exact ⟨⟨h.digs, h.str⟩, hD⟩
  · rw [if_neg hm, putC_none (hiff.2 hm)]
    refine ⟨⟨by simp [h.digs], by show p.2.1 ++ x = _; rw [h.str, joinS_snoc]⟩, fun d hd => ?_⟩
    rcases List.mem_append.1 hd with hd | hd
    · exact hD d hd
    · rw [List.mem_singleton] at hd; subst hd; exact hx
theorem Sames.all {U : ByteArray → Prop} (hU : Inj U) {ses : Int} : ∀ (ch : List ByteArray) (D : List ByteArray) (p : Acc), Sames D p → (∀ d ∈ D, U d) → (∀ x ∈ ch, U x) → Sames (ch.foldl addNew D) (ch.foldl (putC ses) p)
  | [], _, _, h, _, _ => h
  | x :: ch, D, p, h, hD, hc => by
    obtain ⟨a, b⟩ := h.step (ses := ses) hU (hc x (List.mem_cons_self ..)) hD
    exact Sames.all hU ch _ _ a b (fun y hy => hc y (List.mem_cons_of_mem _ hy))
theorem mem_distinct {x : ByteArray} : ∀ {l D : List ByteArray}, x ∈ l ∨ x ∈ D → x ∈ l.foldl addNew D
  | [], D, h => by simpa using h
  | y :: l, D, h => by
    rw [List.foldl_cons]
    apply mem_distinct
    unfold addNew
    rcases h with h | h
    · rcases List.mem_cons.1 h with rfl | h
      · right; split
        · assumption
        · simp
      · exact .inl h
    · right; split
      · exact h
      · exact List.mem_append_left _ h
theorem length_addNew : ∀ (l D : List ByteArray), (l.foldl addNew D).length ≤ D.length + l.length
  | [], D => by simp
  | y :: l, D => by
    have := length_addNew l (addNew D y)
    have h2 : (addNew D y).length ≤ D.length + 1 := by unfold addNew; split <;> simp
    rw [List.foldl_cons, List.length_cons]
    omega
theorem size_joinS : ∀ (l D : List ByteArray), (joinS (l.foldl addNew D)).size ≤ (joinS D).size + bytesS l
  | [], D => by simp
  | y :: l, D => by
    have := size_joinS l (addNew D y)
    have h2 : (joinS (addNew D y)).size ≤ (joinS D).size + y.size := by
      unfold addNew
      split
      · omega
      · rw [joinS_snoc, ByteArray.size_append]; exact Nat.le_refl _
    rw [List.foldl_cons]
    simp only [bytesS, List.map_cons, List.sum_cons] at *
    omega
theorem size_joinS_take {m : List UInt8} (k : Nat) : (joinS (((chunkS m).take k).foldl addNew [])).size ≤ m.length := by
  have h1 := size_joinS ((chunkS m).take k) []
  have h2 := bytesS_chunks m
  have h3 : bytesS (chunkS m) = bytesS ((chunkS m).take k) + bytesS ((chunkS m).drop k) := by
    unfold bytesS
    rw [← List.sum_append, ← List.map_append, List.take_append_drop]
  have h4 : (joinS []).size = 0 := rfl
  omega
/-- What the law asks of a content without holes. -/
theorem chunks_said {c : ByteArray} (h : ∀ g ∈ segs c.data.toList, g.2 ≠ []) (hU : Inj (· ∈ chunksAll [c])) :
    (∀ k ∈ (putAll 3 [] ⟨#[]⟩ c).1, OkE [⟨#[]⟩, ⟨#[]⟩, (putAll 3 [] ⟨#[]⟩ c).2.1] k.2 ∧ ∃ t, t ∈ distinct (chunkS c.data.toList) ∧ dig t = k.1 ∧ valE [⟨#[]⟩, ⟨#[]⟩, (putAll 3 [] ⟨#[]⟩ c).2.1] k.2 = t.data.toList ∧ t.size ≤ c.size) ∧
      (putAll 3 [] ⟨#[]⟩ c).1.length = (distinct (chunkS c.data.toList)).length ∧ (putAll 3 [] ⟨#[]⟩ c).2.1 = joinS (distinct (chunkS c.data.toList)) := by
  have hc : chunksAll [c] = chunkS c.data.toList := by simp [chunksAll, chunksOf_data h]
  rw [hc] at hU
  have ha := (Along.all (E := [⟨#[]⟩, ⟨#[]⟩]) (cs := []) (st := ⟨#[]⟩) (c := c) hU (fun k hk => by cases hk) (fun x hx => by rwa [chunksOf_data h] at hx)).1
  have hs := Sames.all hU (ses := 3) (chunkS c.data.toList) [] ([], ⟨#[]⟩, []) ⟨rfl, rfl⟩ (fun d hd => by cases hd) (fun x hx => hx)
  rw [← putAll_data h] at hs
  refine ⟨fun k hk => ?_, ?_, hs.str⟩
  · obtain ⟨t, t1, t2, t3, t4⟩ := ha.knows k hk
    exact ⟨t3, t, mem_distinct (.inl t1), t2.symm, t4, size_chunksOf (by rw [chunksOf_data h]; exact t1)⟩
  · have := congrArg List.length hs.digs
    rw [List.length_map, List.length_map] at this
    exact this

theorem putL_new {D : List ByteArray} {x : ByteArray} (u : Value) (h : x ∉ D) : putL x u (D.map fun d => (d, u)) = (D ++ [x]).map fun d => (d, u) := by
  induction D with
  | nil => rfl
  | cons d D ih =>
    rw [List.mem_cons, not_or] at h
    simp only [List.map_cons, putL, if_neg h.1, ih h.2, List.cons_append]
theorem lookL_set (D : List ByteArray) (x : ByteArray) (u : Value) : lookL x (D.map fun d => (d, u)) = if x ∈ D then some u else none := by
  induction D with
  | nil => rfl
  | cons d D ih =>
    simp only [List.map_cons, lookL, List.mem_cons]
    by_cases h : x = d
    · simp [h]
    · simp [h, ih]
/-- Block b is a set of strings. -/
def SetIs (w : World) (b : Nat) (D : List ByteArray) : Prop := MapIs SK w b (D.map fun d => (d, Value.bool true))
theorem SetIs.look {w : World} {b : Nat} {D : List ByteArray} (h : SetIs w b D) (x : ByteArray) : (Instr.lookup 51 (.map (some b)) (.string x) false).run Try.prog w = .ok (.bool (decide (x ∈ D))) w := by
  have := MapIs.look h Try.underlying51 (z := .bool false) (fun w => by kernel_rfl) x false
  rw [lookL_set] at this
  refine Eq.trans this ?_
  by_cases hx : x ∈ D <;> simp [hx]
theorem SetIs.len {w : World} {b : Nat} {D : List ByteArray} (h : SetIs w b D) (ty : TypeId) : (Builtin.len_ #[51] ty #[.map (some b)]).run Try.prog w = .ok (.int .i64 (D.length : Int)) w := by
  obtain ⟨es, clock, h1, h2⟩ := h
  have hl := congrArg List.length h2
  simp at hl
  simp [Builtin.len_, run_underlying Try.underlying51, run_getMap h1, goInt, hl]
end Go.Proofs.Ytomlknjpaielgaa
