/- The law Blake2sHexConcatenation: the hexadecimal form of a concatenation is that of its parts, and two strings have one form only if they are equal. No condition. -/
import Derived.Test.YtkklknfjakdpmaaB2Alive
import Derived.Test.YtkklknfjakdpmaaLaw
namespace Go.Proofs.Ytkklknfjakdpmaa
open Go.RowKit Go.Shelf Go.Proofs.Ytkklknfjakdpmaa.B2 Go.ChangeShapes Go.WideShapes Go.ChangeAt
open Go.ChangeMaps (open_string shut_string)

theorem nib_inj {a b : Nat} (ha : a < 16) (hb : b < 16) (h : nib a = nib b) : a = b := by
  have : ∀ a, a < 16 → ∀ b, b < 16 → nib a = nib b → a = b := by decide +kernel
  exact this a ha b hb h
theorem hex_inj : ∀ {a b : List UInt8}, hex a = hex b → a = b
  | [], [], _ => rfl
  | [], _ :: _, h => by simp [hex] at h
  | _ :: _, [], h => by simp [hex] at h
  | x :: a, y :: b, h => by
    simp only [hex, List.flatMap_cons, List.cons_append, List.nil_append, List.cons.injEq] at h
    have h1 := nib_inj (by have := x.toNat_lt; omega) (by have := y.toNat_lt; omega) h.1
    have h2 := nib_inj (by omega) (by omega) h.2.1
    have h3 : a = b := hex_inj h.2.2
    have h4 : x = y := UInt8.toNat_inj.1 (by omega)
    rw [h3, h4]
theorem hex_append (a b : List UInt8) : hex (a ++ b) = hex a ++ hex b := by simp [hex]
theorem beq_forms (a b : ByteArray) : (mkS (hex a.data.toList) = mkS (hex b.data.toList)) ↔ a = b :=
  ⟨fun h => by rw [← mkS_data a, hex_inj (mkS_inj h), mkS_data], fun h => by rw [h]⟩

set_option maxHeartbeats 2000000 in
theorem blake2sHexConc_any (a b : ByteArray) (w : World) : Calls Try.prog 8 #[.string a, .string b] w fun e w' => e = .returned (.bool true) ∧ Below w.heap.size w w' := by
  by_cases hba : 1000 < a.size
  · have hb : (1000 : Int) < (a.size : Int) := by omega
    go_enter Try.func8, Try.ntmps8
    go_wp2_with (go_at_call 11; refine (alive_any _).mono ?_; rintro e w1 ⟨rfl, hb1⟩)
    go_ret
    exact ⟨rfl, hb1⟩
  by_cases hbb : 1000 < b.size
  · have hb : (1000 : Int) < (b.size : Int) := by omega
    have ha : ¬ (1000 : Int) < (a.size : Int) := by omega
    go_enter Try.func8, Try.ntmps8
    go_wp2_with (go_at_call 11; refine (alive_any _).mono ?_; rintro e w1 ⟨rfl, hb1⟩)
    go_ret
    exact ⟨rfl, hb1⟩
  have hb : ¬ (1000 : Int) < (b.size : Int) := by omega
  have ha : ¬ (1000 : Int) < (a.size : Int) := by omega
  obtain ⟨c, hc⟩ : ∃ c, c = a ++ b := ⟨_, rfl⟩
  have hcs : c.size = a.size + b.size := by rw [hc]; simp
  have hcat := fun (wx : World) => run_string_add_sum (P := Try.prog) wx a b (by omega)
  rw [← hc] at hcat
  have HC := Keep.mk (show c.data.toList = a.data.toList ++ b.data.toList from by rw [hc]; simp)
  have HA := Keep.mk (hex_any a (by omega))
  have HB := Keep.mk (hex_any b (by omega))
  have HCC := Keep.mk (hex_any c (by omega))
  have hxa : (mkS (hex a.data.toList)).size ≤ 2000 := by rw [size_mkS, hex_length]; simp; omega
  have hxb : (mkS (hex b.data.toList)).size ≤ 2000 := by rw [size_mkS, hex_length]; simp; omega
  have hcat2 := fun (wx : World) => run_string_add_sum (P := Try.prog) wx (mkS (hex a.data.toList)) (mkS (hex b.data.toList)) (by omega)
  have hab : mkS (hex a.data.toList) ++ mkS (hex b.data.toList) = mkS (hex c.data.toList) := by
    rw [HC.out, hex_append, ← mkS_data (mkS (hex a.data.toList) ++ mkS (hex b.data.toList))]; simp [data_mkS]
  rw [hab] at hcat2
  have HE := Keep.mk (beq_forms a b)
  generalize mkS (hex a.data.toList) = xa at *
  generalize mkS (hex b.data.toList) = xb at *
  generalize mkS (hex c.data.toList) = xc at *
  clear hc hcs hab hxa hxb HC
  go_enter Try.func8, Try.ntmps8
  go_wp2_with fail
  refine (alive_any _).mono ?_
  rintro e w1 ⟨rfl, hb1⟩
  go_wp2_with fail
  refine (HCC.out w1).mono ?_
  rintro e w2 ⟨rfl, hb2⟩
  go_wp2_with fail
  refine (HA.out w2).mono ?_
  rintro e w3 ⟨rfl, hb3⟩
  go_wp2_with fail
  refine (HB.out w3).mono ?_
  rintro e w4 ⟨rfl, hb4⟩
  go_wp2_with fail
  refine (HA.out w4).mono ?_
  rintro e w5 ⟨rfl, hb5⟩
  go_wp2_with fail
  refine (HB.out w5).mono ?_
  rintro e w6 ⟨rfl, hb6⟩
  have hw := (((((hb1.trans (hb2.mono hb1.size)).trans (hb3.mono (by have := hb1.size; have := hb2.size; omega))).trans (hb4.mono (by have := hb1.size; have := hb2.size; have := hb3.size; omega))).trans (hb5.mono (by have := hb1.size; have := hb2.size; have := hb3.size; have := hb4.size; omega)))).trans (hb6.mono (by have := hb1.size; have := hb2.size; have := hb3.size; have := hb4.size; have := hb5.size; omega))
  have HW := Keep.mk hw
  clear hb1 hb2 hb3 hb4 hb5 hb6 hw hcat hcat2 HA HB HCC
  have hbeq : ((xa.toList == xb.toList) == (a.toList == b.toList)) = true := by
    rw [toList_beq, toList_beq, beq_iff_eq, Bool.eq_iff_iff]; simp [HE.out]
  clear HE
  go_wp2
  go_ret
  exact ⟨rfl, HW.out⟩

theorem Blake2sHexConcatenation_walk : LawWalk 8 Try.f8 := by
  intro H enc W base args ds ps hval hA _
  rw [Try.params8] at hA hval
  obtain ⟨v0, vs0, d0, ds0, p0, q0, hargs, rfl, rfl, h0, r0⟩ := trodAll_cons hA
  obtain ⟨v1, vs1, d1, ds1, p1, q1, rfl, rfl, rfl, h1, r1⟩ := trodAll_cons r0
  obtain ⟨rfl, rfl, rfl⟩ := trodAll_nil r1
  obtain rfl : args = #[v0, v1] := by cases args; simp_all
  obtain ⟨s, rfl, rfl, rfl, _⟩ := open_string Try.underlying9 (hval 0 9 v0 rfl rfl) h0
  obtain ⟨t, rfl, rfl, rfl, _⟩ := open_string Try.underlying9 (hval 1 9 v1 rfl rfl) h1
  exact blake2sHexConc_any s t W
end Go.Proofs.Ytkklknfjakdpmaa
namespace Go.Proofs.Ytkklknfjakdpmaa
open Go.ChangeShapes Go.WideShapes Go.ChangeAt Go.RowKit
set_option maxRecDepth 100000 in
theorem Blake2sHexConcatenation_lifted (os : Os) (started : os.Started) (H : Type) (enc : TypeId × Value → H) :
    ReturnsInHanded {} Try.checked os 8 .any (Rows.blake2sHexConcatenationSpec.pre6 enc Try.prog Try.f8 Rows.blake2sHexConcatenationRow.domain false) (Rows.blake2sHexConcatenationSpec.post enc Try.prog Try.f8 false true false false) := by
  refine returnsInHanded_of_change_sized (C := Try.checked) own started (by kernel_rfl) Try.func8
    (ChangeSpec.witness6 (enc := enc) (C := Try.checked) false ⟨#[], #[.string ⟨#[]⟩, .string ⟨#[]⟩], []⟩ 8 (by kernel_rfl) (by kernel_rfl) (by kernel_rfl) (by kernel_rfl)) ?_
  exact law_contract (by kernel_rfl) (by kernel_rfl) ⟨rfl, fun H ds h => by rw [Try.params8] at h; match ds, h with | [d0, d1], _ => rfl⟩ Blake2sHexConcatenation_walk
theorem Blake2sHexConcatenation_over : Rows.blake2sHexConcatenationRow.holds Try.pinned (OpenSpec.ofChange Rows.blake2sHexConcatenationSpec) :=
  OpenClaim.holds_of_wide 8 Try.f8 rfl rfl rfl rfl rfl rfl rfl ⟨rfl, rfl, rfl, rfl, rfl⟩ rfl rfl rfl rfl rfl (by kernel_rfl) Try.func8 (by kernel_rfl)
    (of_decide_eq_true (by kernel_rfl)) (by unfold Func.isWrapper; first | (rw [if_pos (by decide +kernel)]; kernel_rfl) | (rw [if_neg (by decide +kernel)]; exact ⟨rfl, rfl⟩))
    (fun os started H enc _ => Blake2sHexConcatenation_lifted os started H enc)
theorem Blake2sHexConcatenation_proved : Rows.Blake2sHexConcatenationSaid := Blake2sHexConcatenation_over
end Go.Proofs.Ytkklknfjakdpmaa
