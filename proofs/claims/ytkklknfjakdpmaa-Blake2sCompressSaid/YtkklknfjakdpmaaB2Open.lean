/- An argument that is an array of eight words, opened. No condition. -/
import Derived.Test.YtkklknfjakdpmaaB2Bad
import Derived.Test.YtkklknfjakdpmaaOpenStrs
import Derived.Laws.StructEq
import Derived.ChangeKeysEq
namespace Go.Proofs.Ytkklknfjakdpmaa
open Go.RowKit Go.Shelf Go.Proofs.Ytkklknfjakdpmaa.B2 Go.ChangeShapes Go.WideShapes Go.ChangeAt

theorem open_words {H : Type} {enc : TypeId × Value → H} {W : World} {v : Value} {d : DataW H} {ps : List MemPlace} {r : Reach} {b0 : Nat} (hval : Value.okWide Try.prog W r b0 32 v)
    (hd : DataW.Trod enc Try.prog W 0 (fun _ => true) true 32 v d ps) : ∃ h : List B2.W, h.length = 8 ∧ v = .agg (wvs h).toArray := by
  simp only [Value.okWide, Try.underlying32] at hval
  obtain ⟨cs, rfl, hsz, _⟩ := hval
  have hc8 : Try.prog.cellsOf 32 = 8 := by kernel_rfl
  have hc1 : Try.prog.cellsOf 31 = 1 := by kernel_rfl
  rw [hc8] at hsz
  obtain ⟨fuel, hf⟩ := hd
  obtain ⟨xs, m, _, _, hlen, hxl, hall⟩ := DataW.trod_array Try.underlying32 hf
  have hcell : ∀ i, i < 8 → ∃ x : B2.W, cs.toList[i]? = some (.int .u32 (W32 x)) := by
    intro i hi
    have h1 := hall i hi
    rw [List.getElem?_eq_getElem (by omega)] at h1
    obtain ⟨n, e1, _, hw⟩ := DataW.trod_int Try.underlying31 h1
    rw [hc1, Nat.mul_one] at e1
    have hn : 0 ≤ n ∧ n < 4294967296 := by
      simp only [Lit.wf, IntKind.min, IntKind.max, IntKind.signed, IntKind.bits] at hw
      simp at hw
      omega
    refine ⟨BitVec.ofNat 32 n.toNat, ?_⟩
    have h2 : cs.toList[i]? = some (.int .u32 n) := by
      have := congrArg (fun l : List Value => l[0]?) e1
      simpa [Value.cells] using this
    rw [h2, ← wrap_nat32, wrap_nat32]
    unfold W32
    rw [BitVec.toNat_ofNat, Nat.mod_eq_of_lt (by omega)]
    congr 2
    omega
  obtain ⟨h, h1, h2⟩ := pick_list 8 hcell
  refine ⟨h, h1, ?_⟩
  have : cs.toList = wvs h := by
    apply List.ext_getElem?
    intro i
    by_cases hi : i < 8
    · rw [h2 i (h.getD i 0) (by simp [List.getD_eq_getElem?_getD, h1, hi])]
      rw [wvs_get (by omega)]
    · rw [List.getElem?_eq_none (by simp; omega), List.getElem?_eq_none (by rw [wvs_length]; omega)]
  rw [← this]
theorem eqItems_same (z : List B2.W) (w : World) : ∀ (L : List Nat), (∀ i ∈ L, i < z.length) → (Op.eqItems 9999 31 1 (wvs z).toArray (wvs z).toArray L).run Try.prog w = .ok true w
  | [], _ => by simp [Op.eqItems]
  | i :: L, h => by
    have hi := h i (List.mem_cons_self ..)
    have hv : (wvs z).toArray[i]? = some (.int .u32 (W32 (z.getD i 0))) := by rw [List.getElem?_toArray]; exact wvs_get hi
    have hp : (Go.part 31 (wvs z).toArray i).run Try.prog w = .ok (.int .u32 (W32 (z.getD i 0))) w := run_part_plain w (by kernel_rfl) hv
    have he := run_equalIn_int (P := Try.prog) w 9998 31 .u32 .u32 (W32 (z.getD i 0)) (W32 (z.getD i 0)) Try.underlying31
    simp only [Op.eqItems, Sem.run_bind, Nat.mul_one, hp, he, Result.andThen, beq_self_eq_true, Bool.not_true, Bool.false_eq_true, if_false, eqItems_same z w L (fun j hj => h j (List.mem_cons_of_mem _ hj))]
theorem run_eql_words (z : List B2.W) (hz : z.length = 8) (w : World) : (binOp .eql 32 (.agg (wvs z).toArray) (.agg (wvs z).toArray)).run Try.prog w = .ok (.bool true) w := by
  obtain ⟨i, hi, _⟩ := Option.map_eq_some_iff.1 Try.infoU32
  have hc : Try.prog.cellsOf 31 = 1 := by kernel_rfl
  rw [run_eql_struct, run_equalIn_array w 9999 _ _ Try.underlying32 hi, hc, eqItems_same z w _ (by intro j hj; have := List.mem_range.1 hj; omega)]
  rfl
end Go.Proofs.Ytkklknfjakdpmaa
