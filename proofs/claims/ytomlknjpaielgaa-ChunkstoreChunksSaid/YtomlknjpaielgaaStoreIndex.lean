/- The store's small functions: the clone of its chunks; the map of its digests; the collector and its result. Condition: bounds. -/
import Derived.Test.YtomlknjpaielgaaCollect
namespace Go.Proofs.Ytomlknjpaielgaa
set_option maxRecDepth 100000
open Go.RowKit Go.Shelf Go.Proofs.Ytomlknjpaielgaa.Store

/-- v lies in blocks from base on and holds the chunks l. -/
def OwnChks (base : Nat) (w : World) (v : Value) (l : List Chk) : Prop := w.ownsRow base 44 4 v l.length (chkCells l)
def OwnExts (base : Nat) (w : World) (v : Value) (l : List Ext) : Prop := w.ownsRow base 42 3 v l.length (extCells l)
theorem OwnExts.exts {base : Nat} {w : World} {v : Value} {l : List Ext} (h : OwnExts base w v l) : Exts w v l := Slc.of_owns h
theorem OwnChks.chks {base : Nat} {w : World} {v : Value} {l : List Chk} (h : OwnChks base w v l) : Chks w v l := Slc.of_owns h

set_option maxHeartbeats 2000000 in
theorem clone_any {w : World} {v : Value} {l : List Chk} (h : Chks w v l) (hl : l.length ≤ 1000000) :
    Calls Try.prog 25 #[v] w fun e w' => ∃ a' c', e = .returned (.slice a' l.length c') ∧ OwnChks w.heap.size w' (.slice a' l.length c') l ∧ Below w.heap.size w w' := by
  obtain ⟨a, cap, rfl, hc1, hc2, hp⟩ := h.parts
  have HS := Keep.mk h
  unfold maxLen at hc2
  cases a with
  | none =>
    have h0 : l = [] := by
      cases l with
      | nil => rfl
      | cons x l => obtain ⟨b, o, e, _⟩ := hp 0 x rfl; cases e
    subst h0
    clear hp h
    have hnil := fun (wx : World) => Lib.run_eql_slice_nil (P := Try.prog) wx 25 44 none 0 cap 0 0 Try.underlying25
    go_enter Try.func25, Try.ntmps25
    go_wp2_with fail
    go_ret
    exact ⟨_, _, rfl, World.ownsRow_nil _ _ _ _, Below.refl _ _⟩
  | some a =>
    clear hp h
    obtain ⟨i0, hi, hz0, hz1, hz2⟩ := info_parts Try.infoChk
    have b0 : Below w.heap.size w (w.alloc (.cells #[] 44)) := (Below.refl _ _).alloc (Nat.le_refl _) _
    have B0 := Keep.mk b0
    have r0 := Keep.mk (World.ownsRow_made (base := w.heap.size) (e := 44) (size := 4) w #[] 0 (Nat.le_refl _) (by decide) rfl)
    have S0 := Keep.mk (Slc.below HS.out b0 (Nat.le_refl _))
    clear b0
    have hnil := fun (wx : World) => Lib.run_eql_slice_nil (P := Try.prog) wx 25 44 (some a) l.length cap 0 0 Try.underlying25
    go_enter Try.func25, Try.ntmps25
    go_wp2_with (at_builtin; refine wpList_append_slc rfl _ _ 25 rfl w.heap.size 44 i0 (.agg #[.string ⟨#[]⟩, .int .i64 0, .int .i64 0, .int .i64 0]) 4 40 Try.underlying25 hi hz0 hz1 hz2 rfl (by decide) _ _ _ rfl r0.out _ l.length (chkCells l) rfl S0.out (chkCells_one l) (by unfold maxLen; omega) (by omega) (by simp) ?_; intro v2 w2 hown2 hg2 _; have H2 := Keep.mk (And.intro hown2 hg2); clear hown2 hg2 hi hz0 hz1 hz2)
    go_ret
    have h2 := H2.out.1
    rw [Nat.zero_add, List.nil_append] at h2
    obtain ⟨a2, c2, rfl⟩ := ownsRow_slice h2
    exact ⟨_, _, rfl, h2, below_append B0.out (by simp) r0.out (Nat.le_refl _) H2.out.2⟩

set_option maxHeartbeats 2000000 in
theorem collector_any (w : World) : Calls Try.prog 27 #[] w fun e w' =>
    e = .returned (.tuple #[.func (.func 41) #[] #[.pointer (some ⟨w.heap.size, 0, none⟩)], .func (.func 42) #[] #[.pointer (some ⟨w.heap.size, 0, none⟩)]]) ∧ w.alloc (.cells #[.slice none 0 0] 31) = w' := by
  go_enter Try.func27, Try.ntmps27
  go_wp2
  go_ret2
  exact ⟨rfl, rfl⟩
theorem result_any {B : Nat} {w : World} {v : Value} (h : Boxed w B 31 v) : Calls Try.prog 42 #[.pointer (some ⟨B, 0, none⟩)] w fun e w' => e = .returned v ∧ w = w' := by
  have hc := h.cell
  go_enter Try.func42, Try.ntmps42
  go_wp2
  go_ret
  exact ⟨rfl, rfl⟩

noncomputable abbrev SK := strKey (P := Try.prog) Try.underlying9
/-- Block M is the map of the first extent of every digest. -/
def DigMap (w : World) (M : Nat) (l : List Chk) : Prop := ∃ m : List (ByteArray × Value), MapIs SK w M m ∧ ∀ d, lookL d m = (find d l).map extA
theorem DigMap.lookup {w : World} {M : Nat} {l : List Chk} (h : DigMap w M l) (d : ByteArray) :
    (Instr.lookup 59 (.map (some M)) (.string d) true).run Try.prog w = .ok (.tuple #[((find d l).map extA).getD (extA (0, 0, 0)), .bool (find d l).isSome]) w := by
  obtain ⟨m, h1, h2⟩ := h
  have := h1.look Try.underlying59 (z := extA (0, 0, 0)) (fun w => by kernel_rfl) d true
  rw [h2] at this
  refine Eq.trans this ?_
  rw [if_pos rfl, Option.isSome_map]
theorem DigMap.below {B : Nat} {w w' : World} {M : Nat} {l : List Chk} (h : DigMap w M l) (hb : Below B w w') (hB : M < B) : DigMap w' M l := by
  obtain ⟨m, h1, h2⟩ := h
  exact ⟨m, h1.below hb hB, h2⟩
theorem DigMap.only {ts : List TypeId} {w w' : World} {M : Nat} {l : List Chk} (h : DigMap w M l) (ho : OnlyT ts w w') : DigMap w' M l := by
  obtain ⟨m, h1, h2⟩ := h
  exact ⟨m, ho.mapIs h1, h2⟩
theorem find_new {d : ByteArray} {l : List Chk} {x : Ext} (h : find d l = none) (d' : ByteArray) : find d' (l ++ [(d, x)]) = if d' = d then some x else find d' l := by
  rw [find_append]
  by_cases e : d' = d
  · subst e
    rw [h]; simp [find]
  · rw [if_neg e]
    rw [find, if_neg (fun h => e h.symm), find, Option.or_none]
theorem find_old {d : ByteArray} {l : List Chk} {x y : Ext} (h : find d l = some y) (d' : ByteArray) : find d' (l ++ [(d, x)]) = find d' l := by
  rw [find_append]
  by_cases e : d' = d
  · subst e
    rw [h]; simp
  · rw [find, if_neg (fun h => e h.symm), find, Option.or_none]
end Go.Proofs.Ytomlknjpaielgaa
