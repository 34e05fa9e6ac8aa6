/- The law SparseSplit: Split returns the result of the reference implementation. No condition. -/
import Derived.Test.YtgoipkilpmjecaaSparseHelp
import Derived.Test.YtgoipkilpmjecaaOpenSlice
import Derived.ChangeSame
namespace Go.Proofs.Ytgoipkilpmjecaa
open Go.RowKit Go.Shelf Go.Proofs.Ytgoipkilpmjecaa.Sparse Go.ChangeShapes Go.WideShapes Go.ChangeAt
open Go.ChangeMaps (open_string shut_string)

set_option maxHeartbeats 400000 in
theorem sparseSplit_any (v : Value) (l : List (ByteArray × Int)) (w : World) (hv : PartsIn w v l) :
    Calls Try.prog 3 #[v] w fun e w' => e = .returned (.bool true) ∧ Below w.heap.size w w' := by
  go_enter Try.func3, Try.ntmps3
  go_wp2_with fail
  refine (content_any v l w hv).mono ?_
  rintro e w1 ⟨s, ok, rfl, hok, hb1⟩
  have hz1 := hb1.size
  cases ok with
  | false =>
    clear hok
    go_wp2_with fail
    refine (awake_any _).mono ?_
    rintro e w2 ⟨rfl, hb2⟩
    go_wp2
    go_ret
    exact ⟨rfl, held_on hb2 hb1⟩
  | true =>
    have hs := hok rfl
    clear hok
    go_wp2_with fail
    refine (segs_strs s w1 (by omega)).mono ?_
    rintro e w2 ⟨v2, rfl, hS2, hb2⟩
    go_wp2_with fail
    refine (refSegs_strs s w2 (by omega)).mono ?_
    rintro e w3 ⟨v3, rfl, hS3, hb3⟩
    go_wp2_with fail
    refine (segSame_any v2 v3 _ _ w3 (hS2.below hb3 (Nat.le_refl _)) hS3).mono ?_
    rintro e w4 ⟨rfl, hb4⟩
    go_wp2_with fail
    refine (awake_any _).mono ?_
    rintro e w5 ⟨rfl, hb5⟩
    go_wp2
    go_ret
    exact ⟨rfl, held_on hb5 (held_on hb4 (held_on hb3 (held_on hb2 hb1)))⟩
theorem choose_list {α : Type} {p : Nat → α → Prop} : ∀ n : Nat, (∀ i, i < n → ∃ x, p i x) → ∃ l : List α, l.length = n ∧ ∀ i x, l[i]? = some x → p i x
  | 0, _ => ⟨[], rfl, fun i x h => by simp at h⟩
  | n + 1, h => by
    obtain ⟨l, h1, h2⟩ := choose_list n (fun i hi => h i (by omega))
    obtain ⟨x, hx⟩ := h n (by omega)
    refine ⟨l ++ [x], by simp [h1], fun i y hy => ?_⟩
    by_cases hi : i < n
    · rw [List.getElem?_append_left (by omega)] at hy
      exact h2 i y hy
    · rw [List.getElem?_append_right (by omega)] at hy
      have : i - l.length = 0 := by
        have := (List.getElem?_eq_some_iff.1 hy).1
        simp at this; omega
      rw [this] at hy
      simp at hy
      subst hy
      obtain rfl : i = n := by omega
      exact hx

/-- The argument of type []Part, opened. -/
theorem open_parts {H : Type} {enc : TypeId × Value → H} {W : World} {v : Value} {d : DataW H} {ps : List MemPlace} {r : Reach} {b0 : Nat} (hval : Value.okWide Try.prog W r b0 22 v)
    (hd : DataW.Trod enc Try.prog W 0 (fun _ => true) true 22 v d ps) (hb : ∀ n ∈ d.weights Try.prog 22, n ≤ reachBytes) : ∃ l, PartsIn W v l := by
  obtain ⟨a, n, cap, D, sp, rfl, h1, h2, h3, h4⟩ := open_slice_cells Try.underlying22 (show Try.prog.cellsOf 50 = 2 by kernel_rfl) (by omega) hval hd
  obtain ⟨l, hl, hp⟩ := choose_list (p := fun i (p : ByteArray × Int) => ∃ b o, a = some ⟨b, o, none⟩ ∧ b < W.heap.size ∧
    W.cell? ⟨b, o + i * 2, none⟩ = some (.string p.1) ∧ W.cell? ⟨b, o + i * 2 + 1, none⟩ = some (.int .u8 p.2) ∧ p.1.size ≤ reachBytes ∧ 0 ≤ p.2 ∧ p.2 ≤ 255) n (fun i hi => by
    obtain ⟨b, o, cs, fuel, pl, rfl, hlt, hlen, hget, ht⟩ := h4 i hi
    obtain ⟨y0, y1, m, hx, _, e0, e1⟩ := trod_struct2 Try.underlying50 ht
    obtain ⟨c0, c1, rfl⟩ : ∃ c0 c1, cs = [c0, c1] := by
      match cs, hlen with
      | [c0, c1], _ => exact ⟨c0, c1, rfl⟩
    have e0' : DataW.trod enc Try.prog W 0 (fun _ => true) true m 9 [c0] = some y0 := e0
    have e1' : DataW.trod enc Try.prog W 0 (fun _ => true) true m 5 [c1] = some y1 := e1
    obtain ⟨s, f0, rfl, _⟩ := DataW.trod_string Try.underlying9 e0'
    obtain ⟨k, f1, rfl, hk⟩ := DataW.trod_int Try.underlying5 e1'
    simp only [List.cons.injEq, and_true] at f0 f1
    subst f0; subst f1
    have hk' : 0 ≤ k ∧ k ≤ 255 := by simpa [Lit.wf, IntKind.min, IntKind.max, IntKind.signed, IntKind.bits] using hk
    have hg0 := hget 0 (by omega)
    have hg1 := hget 1 (by omega)
    refine ⟨(s, k), b, o, rfl, hlt, by simpa using hg0, by simpa using hg1, ?_, hk'.1, hk'.2⟩
    rcases h3 with ⟨_, rfl⟩ | rfl
    · omega
    · have hD : D i ∈ (List.range n).map D := List.mem_map.2 ⟨i, by simpa using hi, rfl⟩
      simp only [Prod.mk.injEq] at hx
      have := hb s.data.toList.length (weights_slice_mem Try.underlying22 hD (by rw [hx.1]; simp [DataW.weights, DataW.weightsEach, Try.underlying50]))
      simpa using this)
  subst hl
  exact ⟨l, a, cap, rfl, h1, h2, hp⟩

theorem SparseSplit_walk : LawWalk 3 Try.f3 := by
  intro H enc W base args ds ps hval hA hsz
  rw [Try.params3] at hA hval hsz
  obtain ⟨v0, vs0, d0, ds0, p0, q0, hargs, rfl, rfl, h0, r0⟩ := trodAll_cons hA
  obtain ⟨rfl, rfl, rfl⟩ := trodAll_nil r0
  obtain rfl : args = #[v0] := by cases args; simp_all
  obtain ⟨l, hl⟩ := open_parts (hval 0 22 v0 rfl rfl) h0 (sized_each hsz (j := 0) rfl rfl)
  exact sparseSplit_any v0 l W hl
end Go.Proofs.Ytgoipkilpmjecaa
namespace Go.Proofs.Ytgoipkilpmjecaa
open Go.ChangeShapes Go.WideShapes Go.ChangeAt Go.RowKit
set_option maxRecDepth 100000 in
theorem SparseSplit_lifted (os : Os) (started : os.Started) (H : Type) (enc : TypeId × Value → H) :
    ReturnsInHanded {} Try.checked os 3 .any (Rows.sparseSplitSpec.pre6 enc Try.prog Try.f3 Rows.sparseSplitRow.domain false) (Rows.sparseSplitSpec.post enc Try.prog Try.f3 false true false false) := by
  refine returnsInHanded_of_change_sized (C := Try.checked) own started (by kernel_rfl) Try.func3
    (ChangeSpec.witness6 (enc := enc) (C := Try.checked) false ⟨#[], #[.slice none 0 0], []⟩ 8 (by kernel_rfl) (by kernel_rfl) (by kernel_rfl) (by kernel_rfl)) ?_
  exact law_contract (by kernel_rfl) (by kernel_rfl) ⟨rfl, fun H ds h => by rw [Try.params3] at h; match ds, h with | [d0], _ => rfl⟩ SparseSplit_walk
theorem SparseSplit_over : Rows.sparseSplitRow.holds Try.pinned (OpenSpec.ofChange Rows.sparseSplitSpec) :=
  OpenClaim.holds_of_wide 3 Try.f3 rfl rfl rfl rfl rfl rfl rfl ⟨rfl, rfl, rfl, rfl, rfl⟩ rfl rfl rfl rfl rfl (by kernel_rfl) Try.func3 (by kernel_rfl)
    (of_decide_eq_true (by kernel_rfl)) (by unfold Func.isWrapper; first | (rw [if_pos (by decide +kernel)]; kernel_rfl) | (rw [if_neg (by decide +kernel)]; exact ⟨rfl, rfl⟩))
    (fun os started H enc _ => SparseSplit_lifted os started H enc)
theorem SparseSplit_proved : Rows.SparseSplitSaid := SparseSplit_over
end Go.Proofs.Ytgoipkilpmjecaa
