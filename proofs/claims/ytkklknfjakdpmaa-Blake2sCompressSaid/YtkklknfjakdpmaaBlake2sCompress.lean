/- The law Blake2sCompress: Compress agrees with the reference implementation. No condition. -/
import Derived.Test.YtkklknfjakdpmaaB2Alive
import Derived.Test.YtkklknfjakdpmaaB2Open
namespace Go.Proofs.Ytkklknfjakdpmaa
open Go.RowKit Go.Shelf Go.Proofs.Ytkklknfjakdpmaa.B2 Go.ChangeShapes Go.WideShapes Go.ChangeAt
open Go.ChangeMaps (open_string shut_string)

set_option maxRecDepth 100000 in
set_option maxHeartbeats 4000000 in
theorem blake2sCompress_any (h : List B2.W) (hh : h.length = 8) (s : ByteArray) (count : Nat) (hc : count < 18446744073709551616) (last : Bool) (w : World) :
    Calls Try.prog 5 #[.agg (wvs h).toArray, .string s, .int .u64 count, .bool last] w fun e w' => e = .returned (.bool true) ∧ Below w.heap.size w w' := by
  obtain ⟨z, n, hz, H1, H2⟩ : ∃ (z : List B2.W) (n : Int), z.length = 8 ∧
      (∀ wx, Calls Try.prog 15 #[.agg (wvs h).toArray, .string s, .int .u64 count, .bool last] wx fun e w' => e = .returned (.tuple #[.agg (wvs z).toArray, .int .i64 n]) ∧ Below wx.heap.size wx w') ∧
      (∀ wx, Calls Try.prog 16 #[.agg (wvs h).toArray, .string s, .int .u64 count, .bool last] wx fun e w' => e = .returned (.tuple #[.agg (wvs z).toArray, .int .i64 n]) ∧ Below wx.heap.size wx w') := by
    by_cases hs : s.size = 64
    · exact ⟨_, 0, compress_length h s.data.toList count last, compress_any h hh s hs count hc last, refCompress_any h hh s hs count hc last⟩
    · exact ⟨_, 1, rfl, compress_bad h s hs count last, refCompress_bad h s hs count last⟩
  have K1 := Keep.mk H1
  have K2 := Keep.mk H2
  clear H1 H2 hc
  have A0 := Keep.mk (Arr.new w 32 (wvs h))
  have B0 := Keep.mk ((Below.refl w.heap.size w).alloc (Nat.le_refl _) (.cells (wvs h).toArray 32))
  have L0 : w.heap.size < (w.alloc (.cells (wvs h).toArray 32)).heap.size := by simp
  go_enter Try.func5, Try.ntmps5
  go_wp2_with fail
  refine (alive_any _).mono ?_
  rintro e w1 ⟨rfl, hb1⟩
  have A1 := Keep.mk (A0.out.below hb1 L0)
  have B1 := Keep.mk (B0.out.trans (hb1.mono B0.out.size))
  have L1 := A1.out.lt
  clear hb1 A0 B0 L0
  go_upto_region 4 with (first
    | (with_reducible (show wpList _ _ _ (⟨some 16, _, _, _, _, _⟩ :: _) _ _); refine wpList_load_arr (o := ⟨some 16, _, _, _, _, _⟩) rfl 32 _ rfl w.heap.size _ (wvs h) rfl A1.out 8 31 Try.underlying32 (by rw [wvs_length, hh]; exact Try.info8) ?_)
    | (go_at_call 15; refine (K1.out w1).mono ?_; rintro e w2 ⟨rfl, hb2⟩; have A2 := Keep.mk (A1.out.below hb2 L1); have B2' := Keep.mk (B1.out.trans (hb2.mono B1.out.size)); clear hb2)
    | (refine wpList_store_arr (o := ⟨none, _, _, _, _, _⟩) rfl 32 _ _ rfl w2.heap.size _ (wvs (zeros 8)) (wvs z) rfl rfl (Arr.new w2 _ (wvs (zeros 8))) (by rw [wvs_length, hz]; exact Try.info8) (by rw [wvs_length, wvs_length, hz]; rfl) (wvs_one _) ?_; intro w3 hA3 hg3))
  have Z3 := Keep.mk hA3
  have b23 : Below w2.heap.size w2 w3 := ((Below.refl _ w2).alloc (Nat.le_refl _) _).grown hg3 (by simp) (fun _ h => by cases h; exact Nat.le_refl _)
  have A3 := Keep.mk (A2.out.below b23 A2.out.lt)
  have B3 := Keep.mk (B2'.out.trans (b23.mono B2'.out.size))
  have L3 := Z3.out.lt
  have L23 := A2.out.lt
  clear hA3 hg3 b23 A2 B2' A1 B1 K1 L1
  generalize w2.heap.size = G at *
  go_upto_region 5 with (first
    | (with_reducible (show wpList _ _ _ (⟨some 24, _, _, _, _, _⟩ :: _) _ _); refine wpList_load_arr (o := ⟨some 24, _, _, _, _, _⟩) rfl 32 _ rfl w.heap.size _ (wvs h) rfl A3.out 8 31 Try.underlying32 (by rw [wvs_length, hh]; exact Try.info8) ?_)
    | (go_at_call 16; refine (K2.out w3).mono ?_; rintro e w4 ⟨rfl, hb4⟩; have Z4 := Keep.mk (Z3.out.below hb4 L3); have B4 := Keep.mk (B3.out.trans (hb4.mono B3.out.size)); have L4 := Z4.out.lt; clear hb4)
    | (refine wpList_store_arr (o := ⟨none, _, _, _, _, _⟩) rfl 32 _ _ rfl w4.heap.size _ (wvs (zeros 8)) (wvs z) rfl rfl (Arr.new w4 _ (wvs (zeros 8))) (by rw [wvs_length, hz]; exact Try.info8) (by rw [wvs_length, wvs_length, hz]; rfl) (wvs_one _) ?_; intro w5 hA5 hg5))
  have Z5 := Keep.mk hA5
  have b45 : Below w4.heap.size w4 w5 := ((Below.refl _ w4).alloc (Nat.le_refl _) _).grown hg5 (by simp) (fun _ h => by cases h; exact Nat.le_refl _)
  have Z45 := Keep.mk (Z4.out.below b45 L4)
  have B5 := Keep.mk (B4.out.trans (b45.mono B4.out.size))
  clear hA5 hg5 b45 Z4 B4 A3 B3 Z3 K2
  have heq : (Op.equalIn 10000 32 (.agg (wvs z).toArray) (.agg (wvs z).toArray)).run Try.prog w5 = .ok true w5 := by
    obtain ⟨i, hi, _⟩ := Option.map_eq_some_iff.1 Try.infoU32
    have hc : Try.prog.cellsOf 31 = 1 := by kernel_rfl
    rw [run_equalIn_array w5 9999 _ _ Try.underlying32 hi, hc, eqItems_same z w5 _ (by intro j hj; have := List.mem_range.1 hj; omega)]
  generalize w4.heap.size = G2 at *
  go_wp2_with (first
    | (with_reducible (show wpList _ _ _ (⟨some 31, _, _, _, _, _⟩ :: _) _ _); refine wpList_load_arr (o := ⟨some 31, _, _, _, _, _⟩) rfl 32 _ rfl G _ (wvs z) rfl Z45.out 8 31 Try.underlying32 (by rw [wvs_length, hz]; exact Try.info8) ?_)
    | (with_reducible (show wpList _ _ _ (⟨some 32, _, _, _, _, _⟩ :: _) _ _); refine wpList_load_arr (o := ⟨some 32, _, _, _, _, _⟩) rfl 32 _ rfl G2 _ (wvs z) rfl Z5.out 8 31 Try.underlying32 (by rw [wvs_length, hz]; exact Try.info8) ?_))
  go_ret
  exact ⟨by simp, B5.out⟩

theorem Blake2sCompress_walk : LawWalk 5 Try.f5 := by
  intro H enc W base args ds ps hval hA _
  rw [Try.params5] at hA hval
  obtain ⟨v0, vs0, d0, ds0, p0, q0, hargs, rfl, rfl, h0, r0⟩ := trodAll_cons hA
  obtain ⟨v1, vs1, d1, ds1, p1, q1, rfl, rfl, rfl, h1, r1⟩ := trodAll_cons r0
  obtain ⟨v2, vs2, d2, ds2, p2, q2, rfl, rfl, rfl, h2, r2⟩ := trodAll_cons r1
  obtain ⟨v3, vs3, d3, ds3, p3, q3, rfl, rfl, rfl, h3, r3⟩ := trodAll_cons r2
  obtain ⟨rfl, rfl, rfl⟩ := trodAll_nil r3
  obtain rfl : args = #[v0, v1, v2, v3] := by cases args; simp_all
  obtain ⟨h, hh, rfl⟩ := open_words (hval 0 32 v0 rfl rfl) h0
  obtain ⟨s, rfl, rfl, rfl, _⟩ := open_string Try.underlying9 (hval 1 9 v1 rfl rfl) h1
  obtain ⟨n, rfl, rfl, rfl, hw⟩ := open_int Try.underlying33 (hval 2 33 v2 rfl rfl) h2
  obtain ⟨b, rfl, rfl, rfl⟩ := open_bool Try.underlying4 (hval 3 4 v3 rfl rfl) h3
  have hn : 0 ≤ n ∧ n < 18446744073709551616 := by
    simp only [Lit.wf, IntKind.min, IntKind.max, IntKind.signed, IntKind.bits] at hw
    simp at hw
    omega
  obtain ⟨c, rfl⟩ := Int.eq_ofNat_of_zero_le hn.1
  exact blake2sCompress_any h hh s c (by omega) b W
end Go.Proofs.Ytkklknfjakdpmaa
namespace Go.Proofs.Ytkklknfjakdpmaa
open Go.ChangeShapes Go.WideShapes Go.ChangeAt Go.RowKit
set_option maxRecDepth 100000 in
theorem Blake2sCompress_lifted (os : Os) (started : os.Started) (H : Type) (enc : TypeId × Value → H) :
    ReturnsInHanded {} Try.checked os 5 .any (Rows.blake2sCompressSpec.pre6 enc Try.prog Try.f5 Rows.blake2sCompressRow.domain false) (Rows.blake2sCompressSpec.post enc Try.prog Try.f5 false true false false) := by
  refine returnsInHanded_of_change_sized (C := Try.checked) own started (by kernel_rfl) Try.func5
    (ChangeSpec.witness6 (enc := enc) (C := Try.checked) false ⟨#[], #[.agg #[.int .u32 0, .int .u32 0, .int .u32 0, .int .u32 0, .int .u32 0, .int .u32 0, .int .u32 0, .int .u32 0], .string ⟨#[]⟩, .int .u64 0, .bool false], []⟩ 8 (by kernel_rfl) (by kernel_rfl) (by kernel_rfl) (by kernel_rfl)) ?_
  exact law_contract (by kernel_rfl) (by kernel_rfl) ⟨rfl, fun H ds h => by rw [Try.params5] at h; match ds, h with | [d0, d1, d2, d3], _ => rfl⟩ Blake2sCompress_walk
theorem Blake2sCompress_over : Rows.blake2sCompressRow.holds Try.pinned (OpenSpec.ofChange Rows.blake2sCompressSpec) :=
  OpenClaim.holds_of_wide 5 Try.f5 rfl rfl rfl rfl rfl rfl rfl ⟨rfl, rfl, rfl, rfl, rfl⟩ rfl rfl rfl rfl rfl (by kernel_rfl) Try.func5 (by kernel_rfl)
    (of_decide_eq_true (by kernel_rfl)) (by unfold Func.isWrapper; first | (rw [if_pos (by decide +kernel)]; kernel_rfl) | (rw [if_neg (by decide +kernel)]; exact ⟨rfl, rfl⟩))
    (fun os started H enc _ => Blake2sCompress_lifted os started H enc)
theorem Blake2sCompress_proved : Rows.Blake2sCompressSaid := Blake2sCompress_over
end Go.Proofs.Ytkklknfjakdpmaa
