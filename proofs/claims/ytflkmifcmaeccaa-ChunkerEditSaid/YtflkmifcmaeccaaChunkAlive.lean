/- The chapter's examples hold: alive returns true. No condition. -/
import Derived.Test.YtflkmifcmaeccaaChunkRef
import Derived.Test.YtflkmifcmaeccaaChunkSame
import Derived.Test.YtflkmifcmaeccaaStrLib
namespace Go.Proofs.Ytflkmifcmaeccaa
open Go.RowKit Go.Shelf Go.Proofs.Ytflkmifcmaeccaa.Chunk

def L200 : List ByteArray := [mkS (List.replicate 96 0), mkS (List.replicate 96 0), mkS (List.replicate 8 0)]
theorem alive_chunks : chunkS (mkS (Lib.repeatL [0] 200)).data.toList = L200 := by
  have h : split (List.replicate 200 0) = [List.replicate 96 0, List.replicate 96 0, List.replicate 8 0] := by decide +kernel
  rw [data_mkS, repeatL_zero, chunkS, h]
  rfl
theorem alive_fifteen : (chunkS [102, 105, 102, 116, 101, 101, 110, 32, 98, 121, 116, 101, 115, 46, 46]).length = 1 := by
  simp only [chunkS, List.length_map]
  decide +kernel

set_option maxHeartbeats 1000000 in
theorem alive_any (w : World) : Calls Try.prog 9 #[] w fun e w' => e = .returned (.bool true) ∧ Below w.heap.size w w' := by
  go_enter Try.func9, Try.ntmps9
  go_wp2_with fail
  refine (repeat_any ⟨#[0]⟩ 200 w (by decide) (by decide) (by decide)).mono ?_
  rintro e w1 ⟨rfl, hb1⟩
  have hsz : (mkS (Lib.repeatL (⟨#[0]⟩ : ByteArray).data.toList (200 : Int).toNat)).size ≤ 1000000 := by rw [size_mkS, Lib.repeatL_length]; decide
  have H200 : Keep (chunkS (mkS (Lib.repeatL (⟨#[0]⟩ : ByteArray).data.toList (200 : Int).toNat)).data.toList = L200) := ⟨alive_chunks⟩
  generalize mkS (Lib.repeatL (⟨#[0]⟩ : ByteArray).data.toList (200 : Int).toNat) = s200 at hsz H200 ⊢
  go_wp2_with fail
  refine (split_any s200 w1 hsz).mono ?_
  rintro e w2 ⟨v, rfl, hrow, hb2⟩
  rw [H200.out] at hrow
  have hs2 := Strs.of_owns hrow
  obtain ⟨b, o, c, hve, h1, h2, h3, h4⟩ := hs2.cons_cases (by simp [L200])
  obtain ⟨z, hz0⟩ : ∃ z, z = mkS (List.replicate 96 0) := ⟨_, rfl⟩
  have hc0 : w2.cell? ⟨b, o, none⟩ = some (.string z) := by rw [hz0]; exact h4 0 _ rfl
  have hc1 : w2.cell? ⟨b, o + 1, none⟩ = some (.string z) := by rw [hz0]; exact h4 1 _ rfl
  rw [show L200.length = 3 from rfl] at hve h1
  subst hve
  clear h4 hrow hs2 H200 hz0
  go_wp2
  refine wp_loop_rounds 2 ?_
  rw [rounds_succ]
  go_wp2
  go_quiet (fail)
  go_wp2
  rw [rounds_succ]
  go_wp2_with fail
  have hsz' : (⟨#[102, 105, 102, 116, 101, 101, 110, 32, 98, 121, 116, 101, 115, 46, 46]⟩ : ByteArray).size ≤ 1000000 := by decide
  refine (split_any ⟨#[102, 105, 102, 116, 101, 101, 110, 32, 98, 121, 116, 101, 115, 46, 46]⟩ _ hsz').mono ?_
  rintro e w3 ⟨v3, rfl, hrow3, hb3⟩
  obtain ⟨a3, c3, hv3, _⟩ := Strs.of_owns hrow3
  rw [show (chunkS (⟨#[102, 105, 102, 116, 101, 101, 110, 32, 98, 121, 116, 101, 115, 46, 46]⟩ : ByteArray).data.toList).length = 1 from alive_fifteen] at hv3
  subst hv3
  clear hrow3
  go_wp2_with (go_at_call 10; refine (first_any ⟨#[]⟩ _ (by decide)).mono ?_; rintro e w' ⟨rfl, rfl⟩)
  go_ret
  have hs1 := hb1.size
  have hs2 := hb2.size
  exact ⟨rfl, (hb1.trans ((below_drewN hb2 nq).mono hs1)).trans (hb3.mono (Nat.le_trans hs1 hs2))⟩
end Go.Proofs.Ytflkmifcmaeccaa
