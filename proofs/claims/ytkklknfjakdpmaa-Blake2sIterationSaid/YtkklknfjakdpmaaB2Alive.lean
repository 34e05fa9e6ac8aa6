/- The laws' first check of the examples returns true. No condition. -/
import Derived.Test.YtkklknfjakdpmaaB2Sum
import Derived.Test.YtkklknfjakdpmaaB2Hex
import Derived.Test.YtkklknfjakdpmaaStrOwn
namespace Go.Proofs.Ytkklknfjakdpmaa
open Go.RowKit Go.Shelf Go.Proofs.Ytkklknfjakdpmaa.B2

theorem digest_length (l : List UInt8) : (digest l).length = 32 := by rw [digest, flat4_length, final_length]
def exA : List UInt8 := [53, 48, 56, 99, 53, 101, 56, 99, 51, 50, 55, 99, 49, 52, 101, 50, 101, 49, 97, 55, 50, 98, 97, 51, 52, 101, 101, 98, 52, 53, 50, 102, 51, 55, 52, 53, 56, 98, 50, 48, 57, 101, 100, 54, 51, 97, 50, 57, 52, 100, 57, 57, 57, 98, 52, 99, 56, 54, 54, 55, 53, 57, 56, 50]
def exB : List UInt8 := [54, 57, 50, 49, 55, 97, 51, 48, 55, 57, 57, 48, 56, 48, 57, 52, 101, 49, 49, 49, 50, 49, 100, 48, 52, 50, 51, 53, 52, 97, 55, 99, 49, 102, 53, 53, 98, 54, 52, 56, 50, 99, 97, 49, 97, 53, 49, 101, 49, 98, 50, 53, 48, 100, 102, 100, 49, 101, 100, 48, 101, 101, 102, 57]
set_option maxRecDepth 100000 in
theorem exA_hex : hex (digest (cat [⟨#[97]⟩, ⟨#[98, 99]⟩])) = exA := by decide +kernel
set_option maxRecDepth 100000 in
theorem exB_hex : hex (digest (cat [])) = exB := by decide +kernel

theorem exA_eq : ((mkS exA).toList == ([53, 48, 56, 99, 53, 101, 56, 99, 51, 50, 55, 99, 49, 52, 101, 50, 101, 49, 97, 55, 50, 98, 97, 51, 52, 101, 101, 98, 52, 53, 50, 102, 51, 55, 52, 53, 56, 98, 50, 48, 57, 101, 100, 54, 51, 97, 50, 57, 52, 100, 57, 57, 57, 98, 52, 99, 56, 54, 54, 55, 53, 57, 56, 50] : List UInt8)) = true := by decide +kernel
theorem exB_eq : ((mkS exB).toList == ([54, 57, 50, 49, 55, 97, 51, 48, 55, 57, 57, 48, 56, 48, 57, 52, 101, 49, 49, 49, 50, 49, 100, 48, 52, 50, 51, 53, 52, 97, 55, 99, 49, 102, 53, 53, 98, 54, 52, 56, 50, 99, 97, 49, 97, 53, 49, 101, 49, 98, 50, 53, 48, 100, 102, 100, 49, 101, 100, 48, 101, 101, 102, 57] : List UInt8)) = true := by decide +kernel
set_option maxRecDepth 100000 in
set_option maxHeartbeats 2000000 in
theorem alive_any (w : World) : Calls Try.prog 11 #[] w fun e w' => e = .returned (.bool true) ∧ Below w.heap.size w w' := by
  have hA := exA_eq
  have hB := exB_eq
  have hb0 := Keep.mk ((Below.refl w.heap.size w).alloc (Nat.le_refl _) (.cells (strCells [⟨#[97]⟩, ⟨#[98, 99]⟩]).toArray 9))
  have hs0 := Keep.mk (Strs.made w [⟨#[97]⟩, ⟨#[98, 99]⟩] 9 (by decide))
  go_enter Try.func11, Try.ntmps11
  go_wp2_with fail
  refine (sum_any (l := [⟨#[97]⟩, ⟨#[98, 99]⟩]) hs0.out (by decide) (by decide)).mono ?_
  rintro e w1 ⟨rfl, hb1⟩
  have H1 := Keep.mk (hb0.out.trans (hb1.mono hb0.out.size))
  clear hb0 hs0 hb1
  go_wp2_with fail
  refine (hex_any _ (by rw [size_mkS, digest_length]; omega) w1).mono ?_
  rintro e w2 ⟨rfl, hb2⟩
  rw [data_mkS, exA_hex]
  have H2 := Keep.mk (H1.out.trans (hb2.mono H1.out.size))
  clear H1 hb2
  go_wp2_with fail
  refine (sum_any (l := []) (Strs.nil w2) (by decide) (by decide)).mono ?_
  rintro e w3 ⟨rfl, hb3⟩
  have H3 := Keep.mk (H2.out.trans (hb3.mono H2.out.size))
  clear H2 hb3
  go_wp2_with fail
  refine (hex_any _ (by rw [size_mkS, digest_length]; omega) w3).mono ?_
  rintro e w4 ⟨rfl, hb4⟩
  rw [data_mkS, exB_hex]
  have H4 := Keep.mk (H3.out.trans (hb4.mono H3.out.size))
  clear H3 hb4
  go_wp2
  go_ret
  exact ⟨rfl, H4.out⟩
end Go.Proofs.Ytkklknfjakdpmaa
