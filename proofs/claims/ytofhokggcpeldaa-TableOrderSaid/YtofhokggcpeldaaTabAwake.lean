/- The argument of type [][]string, opened; the statements' own example. No condition. -/
import Derived.Test.YtofhokggcpeldaaOpenStrs
import Derived.Test.YtofhokggcpeldaaTabLines
namespace Go.Proofs.Ytofhokggcpeldaa
open Go.RowKit Go.Shelf Go.Proofs.Ytofhokggcpeldaa.Table Go.ChangeShapes Go.WideShapes Go.ChangeAt

theorem open_rows {H : Type} {enc : TypeId × Value → H} {W : World} {v : Value} {d : DataW H} {ps : List MemPlace} {r : Reach} {b0 : Nat} (hval : Value.okWide Try.prog W r b0 22 v)
    (hd : DataW.Trod enc Try.prog W 0 (fun _ => true) true 22 v d ps) (hb : ∀ n ∈ d.weights Try.prog 22, n ≤ reachBytes) :
    ∃ rows : List Row, TRows W v rows ∧ (∀ r ∈ rows, r.length ≤ 8796093022208) ∧ (∀ r ∈ rows, ∀ c ∈ r, c.size ≤ 140737488355328) ∧ rows.length * 24 ≤ 140737488355328 := by
  obtain ⟨a, n, cap, D, sp, rfl, h1, h2, h3, h4⟩ := open_slice_cells Try.underlying22 (show Try.prog.cellsOf 28 = 1 by kernel_rfl) (by omega) hval hd
  have hw : ∀ i, i < n → ∀ k ∈ (D i).weights Try.prog 28, k ≤ reachBytes := fun i hi k hk => by
    rcases h3 with ⟨_, h0⟩ | rfl
    · omega
    · exact hb _ (weights_slice_mem Try.underlying22 (x := D i) (List.mem_map.2 ⟨i, by simpa using hi, rfl⟩) hk)
  obtain ⟨rows, hl, hp⟩ := pick_list (p := fun i (r : Row) => (∃ b o u, a = some ⟨b, o, none⟩ ∧ b < W.heap.size ∧ W.cell? ⟨b, o + i, none⟩ = some u ∧ Strs W u r) ∧ r.length ≤ 8796093022208 ∧ ∀ c ∈ r, c.size ≤ 140737488355328) n (fun i hi => by
    obtain ⟨b, o, cs, fuel, pl, rfl, hlt, hlen, hget, ht⟩ := h4 i hi
    obtain ⟨c0, rfl⟩ : ∃ c0, cs = [c0] := by
      match cs, hlen with
      | [c0], _ => exact ⟨c0, rfl⟩
    obtain ⟨l, hl, hs, hz, _⟩ := open_strs1 ht (hw i hi)
    have hg0 := hget 0 (by omega)
    unfold reachBytes at hz hs
    exact ⟨l, ⟨b, o, c0, rfl, hlt, by simpa using hg0, hl⟩, by omega, fun c hc => by have := hs c hc; omega⟩)
  subst hl
  refine ⟨rows, ⟨a, cap, rfl, h1, h2, fun i r hr => (hp i r hr).1⟩, fun r hr => ?_, fun r hr => ?_, ?_⟩
  · obtain ⟨i, hi⟩ := List.mem_iff_getElem?.1 hr
    exact (hp i r hi).2.1
  · obtain ⟨i, hi⟩ := List.mem_iff_getElem?.1 hr
    exact (hp i r hi).2.2
  · rcases h3 with ⟨_, h0⟩ | rfl
    · rw [h0]; exact Nat.zero_le _
    · have h5 := hb _ (weights_len Try.underlying22)
      rw [show Try.prog.bytesOf 28 = 24 by kernel_rfl, List.length_map, List.length_range] at h5
      have := Nat.le_trans (Nat.mul_le_mul_right 24 (Nat.le_add_right rows.length sp.length)) h5
      unfold reachBytes at this
      omega

theorem Strs.made (w : World) (l : List ByteArray) (t : TypeId) (h : l.length ≤ maxLen) : Strs (w.alloc (.cells (strCells l).toArray t)) (.slice (some ⟨w.heap.size, 0, none⟩) l.length l.length) l := by
  refine ⟨_, _, rfl, Nat.le_refl _, h, .inr ⟨w.heap.size, 0, rfl, by simp, fun i s hi => ?_⟩⟩
  have e : (w.alloc (.cells (strCells l).toArray t)).heap[w.heap.size]? = some (.cells (strCells l).toArray t) := World.alloc_heap_new w _
  rw [World.cell?]
  simp only [e, Nat.zero_add]
  simp [strCells, hi]

def exRows : List Row := [[⟨#[97]⟩, ⟨#[98, 99, 100]⟩], [⟨#[101, 102]⟩]]
def exLines : List ByteArray := [⟨#[124, 32, 97, 32, 32, 124, 32, 98, 99, 100, 32, 124]⟩, ⟨#[124, 32, 101, 102, 32, 124, 32, 32, 32, 32, 32, 124]⟩]
theorem exRows_lines : linesS exRows = exLines := by decide +kernel
theorem exRows_small : ∀ r ∈ exRows, Small r := fun r hr => by
  simp only [exRows, List.mem_cons, List.not_mem_nil, or_false] at hr
  rcases hr with rfl | rfl
  · exact ⟨by decide, by decide⟩
  · exact ⟨by decide, by decide⟩
theorem exRows_in (w : World) (t u : TypeId) : TRows (((w.alloc (.cells #[.string ⟨#[97]⟩, .string ⟨#[98, 99, 100]⟩] t)).alloc (.cells #[.string ⟨#[101, 102]⟩] t)).alloc (.cells #[.slice (some ⟨w.heap.size, 0, none⟩) 2 2, .slice (some ⟨w.heap.size + 1, 0, none⟩) 1 1] u))
    (.slice (some ⟨w.heap.size + 1 + 1, 0, none⟩) 2 2) exRows := by
  have s1 := Strs.made w [⟨#[97]⟩, ⟨#[98, 99, 100]⟩] t (by decide)
  have s2 := Strs.made (w.alloc (.cells #[.string ⟨#[97]⟩, .string ⟨#[98, 99, 100]⟩] t)) [⟨#[101, 102]⟩] t (by decide)
  simp only [World.size_alloc] at s2
  obtain ⟨w2, hw2⟩ : ∃ w2, w2 = (w.alloc (.cells #[.string ⟨#[97]⟩, .string ⟨#[98, 99, 100]⟩] t)).alloc (.cells #[.string ⟨#[101, 102]⟩] t) := ⟨_, rfl⟩
  have hz : w2.heap.size = w.heap.size + 1 + 1 := by rw [hw2]; simp
  have b1 : Below (w.heap.size + 1) (w.alloc (.cells #[.string ⟨#[97]⟩, .string ⟨#[98, 99, 100]⟩] t)) w2 := by rw [hw2]; exact (Below.refl _ _).alloc (by simp) _
  have b2 : ∀ o : Obj, Below w2.heap.size w2 (w2.alloc o) := fun o => (Below.refl _ _).alloc (Nat.le_refl _) _
  have e : ∀ o : Obj, (w2.alloc o).heap[w2.heap.size]? = some o := fun o => World.alloc_heap_new w2 _
  have s2' : Strs w2 (.slice (some ⟨w.heap.size + 1, 0, none⟩) 1 1) [⟨#[101, 102]⟩] := by rw [hw2]; exact s2
  have s1' : Strs w2 (.slice (some ⟨w.heap.size, 0, none⟩) 2 2) [⟨#[97]⟩, ⟨#[98, 99, 100]⟩] := Strs.below s1 b1 (by simp)
  rw [← hw2, ← hz]
  clear hw2 s1 s2 b1
  refine ⟨_, 2, rfl, Nat.le_refl _, by decide, fun i r hr => ?_⟩
  match i, hr with
  | 0, hr =>
    simp only [exRows, List.getElem?_cons_zero, Option.some.injEq] at hr
    subst hr
    exact ⟨_, _, _, rfl, by simp, by rw [World.cell?]; simp only [e]; rfl, s1'.below (b2 _) (Nat.le_refl _)⟩
  | 1, hr =>
    simp only [exRows, List.getElem?_cons_succ, List.getElem?_cons_zero, Option.some.injEq] at hr
    subst hr
    exact ⟨_, _, _, rfl, by simp, by rw [World.cell?]; simp only [e]; rfl, s2'.below (b2 _) (Nat.le_refl _)⟩
  | n + 2, hr => simp [exRows] at hr

set_option maxHeartbeats 1000000 in
theorem awake51_any (w : World) : Calls Try.prog 11 #[] w fun e w' => e = .returned (.bool true) ∧ Below w.heap.size w w' := by
  have hex := exRows_in w 9 28
  go_enter Try.func11, Try.ntmps11
  go_wp2_with fail
  have hb0 : Below w.heap.size w (((w.alloc (.cells #[.string ⟨#[97]⟩, .string ⟨#[98, 99, 100]⟩] 9)).alloc (.cells #[.string ⟨#[101, 102]⟩] 9)).alloc (.cells #[.slice (some ⟨w.heap.size, 0, none⟩) 2 2, .slice (some ⟨w.heap.size + 1, 0, none⟩) 1 1] 28)) :=
    (((Below.refl _ _).alloc (Nat.le_refl _) _).alloc (by simp) _).alloc (by simp; omega) _
  refine (lines_any _ exRows _ hex exRows_small (by decide)).mono ?_
  rintro e w1 ⟨x, rfl, hx, hb1⟩
  have hB1 := held_on hb1 hb0
  have hX := Strs.of_owns hx
  rw [exRows_lines] at hX
  clear hx hex hb0 hb1
  go_wp2_with fail
  refine (same51_any _ _ exLines exLines _ (hX.below ((Below.refl _ _).alloc (Nat.le_refl _) _) (Nat.le_refl _)) (Strs.made w1 exLines 9 (by decide))).mono ?_
  rintro e w2 ⟨rfl, hb2⟩
  go_wp2
  go_ret
  exact ⟨ret_bool (by decide), held_on hb2 (hB1.alloc hB1.size _)⟩
end Go.Proofs.Ytofhokggcpeldaa
