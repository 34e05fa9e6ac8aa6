/- The checker's formed. No condition. -/
import Derived.Test.YtgimdbflpdmlmaaCkExpr
namespace Go.Proofs.Ytgimdbflpdmlmaa
set_option maxRecDepth 100000
open Go.RowKit Go.Shelf Go.Proofs.Ytgimdbflpdmlmaa.Ck

theorem beq_nat0 (n : Nat) : ((n : Int) == 0) = decide (n = 0) := by rw [Bool.eq_iff_iff]; simp
theorem eq_nat1 (n : Nat) : ((n : Int) = 1) = (n = 1) := propext ⟨fun h => by omega, fun h => by omega⟩
set_option maxHeartbeats 4000000 in
theorem formed_any {w : World} {k : Int} {name : ByteArray} {index value : List Ex} {thn els : List St} {ia va ta ea : Option Addr} {ic vc tc ec n : Nat} (hv : ExsAt w n (.slice va value.length vc) value) :
    Calls Try.prog 84 #[.agg #[.int .i64 k, .string name, .slice ia index.length ic, .slice va value.length vc, .slice ta thn.length tc, .slice ea els.length ec]] w fun e w' => e = .returned (.bool (formed (.mk k name index value thn els))) ∧ Below w.heap.size w w' := by
  have HV := Keep.mk hv
  have HQ := Keep.mk (show formed (.mk k name index value thn els) = _ from by rw [formed])
  clear hv
  generalize formed (.mk k name index value thn els) = q at *
  go_enter Try.func84, Try.ntmps84
  go_wp2_with fail
  go_quiet (fail)
  have HD := Keep.mk (below_drewN ((Below.refl w.heap.size w).alloc (Nat.le_refl _) (.cells #[.int .i64 k, .string name, .slice ia index.length ic, .slice va value.length vc, .slice ta thn.length tc, .slice ea els.length ec] 46)) nq)
  have HNE : Keep (decide (name.size ≠ 0) = (!name.toList.isEmpty)) := ⟨by
    rw [toList_mkS]
    have hl : name.data.toList.length = name.size := by simp
    cases h : name.data.toList with
    | nil => rw [h] at hl; simp at hl; simp [← hl]
    | cons x l => rw [h] at hl; simp at hl; simp [← hl]⟩
  rw [HNE.out] at HQ
  generalize (!name.toList.isEmpty) = nb at *
  generalize index.length = il at *
  generalize thn.length = tl at *
  generalize els.length = el at *
  have hK : ((w.alloc (.cells #[.int .i64 k, .string name, .slice ia il ic, .slice va value.length vc, .slice ta tl tc, .slice ea el ec] 46)).drewN nq).heap[w.heap.size]? = some (.cells #[.int .i64 k, .string name, .slice ia il ic, .slice va value.length vc, .slice ta tl tc, .slice ea el ec] 46 (0, 0)) := heap_alloc_new w _
  have k0 : ((w.alloc (.cells #[.int .i64 k, .string name, .slice ia il ic, .slice va value.length vc, .slice ta tl tc, .slice ea el ec] 46)).drewN nq).cell? ⟨w.heap.size, 0, none⟩ = some (.int .i64 k) := by simp only [World.cell?, hK]; rfl
  have k3 : ((w.alloc (.cells #[.int .i64 k, .string name, .slice ia il ic, .slice va value.length vc, .slice ta tl tc, .slice ea el ec] 46)).drewN nq).cell? ⟨w.heap.size, 3, none⟩ = some (.slice va value.length vc) := by simp only [World.cell?, hK]; rfl
  have kl := (Array.getElem?_eq_some_iff.1 hK).1
  clear hK
  by_cases hv1 : value.length = 1
  · obtain ⟨x, rfl⟩ : ∃ x, value = [x] := List.length_eq_one_iff.1 hv1
    obtain ⟨m, b, o, cap, u, _, hva, hb, c0, _, _, _, _⟩ := HV.out.get (i := 0) (e := x) rfl
    simp only [Value.slice.injEq] at hva
    obtain ⟨rfl, _, rfl⟩ := hva
    have c0' := (HD.out.cell (p := ⟨b, o + 0 * 4, none⟩) hb).trans c0
    have hbl : b < ((w.alloc (.cells #[.int .i64 k, .string name, .slice ia il ic, .slice (some ⟨b, o, none⟩) [x].length vc, .slice ta tl tc, .slice ea el ec] 46)).drewN nq).heap.size := Nat.lt_of_lt_of_le hb HD.out.size
    have hop : (x.op.toList == [99, 97, 108, 108]) = decide (x.op = sCall) := eqs x.op (by decide +kernel)
    rw [Nat.zero_mul, Nat.add_zero] at c0'
    clear c0 HV
    generalize ((w.alloc (.cells #[.int .i64 k, .string name, .slice ia il ic, .slice (some ⟨b, o, none⟩) [x].length vc, .slice ta tl tc, .slice ea el ec] 46)).drewN nq) = wd at *
    simp only [List.length_singleton] at *
    go_wp2
    all_goals (go_ret; refine ⟨?_, HD.out⟩; rw [HQ.out]; clear HQ HD HNE k0 k3 kl c0' hbl hb hv1; first | (simp [*]; done) | (simp_all; done) | (simp_all; omega) | (rcases nb <;> simp_all [beq_nat0, eq_nat1]; done))
  · have hv2 : ((value.length : Int) == 1) = false := by simp; omega
    have HV1 := Keep.mk hv1
    clear hv1 HV
    generalize ((w.alloc (.cells #[.int .i64 k, .string name, .slice ia il ic, .slice va value.length vc, .slice ta tl tc, .slice ea el ec] 46)).drewN nq) = wd at *
    go_wp2
    all_goals (go_ret; refine ⟨?_, HD.out⟩; rw [HQ.out]; have hv9 := HV1.out; clear HQ HD HNE k0 k3 kl HV1; first | (simp [*]; done) | (simp_all; done) | (simp_all; omega) | (rcases nb <;> simp_all [beq_nat0]; done))
end Go.Proofs.Ytgimdbflpdmlmaa
