/- steletop.boots. Condition: the table of powers of ten lies. -/
import Derived.Test.YtojgopbaiflfgaaGreatDoorTpPlain
namespace Go.Proofs.YtojgopbaiflfgaaGreatDoor
set_option maxRecDepth 100000
open Go.RowKit Go.Shelf Go.Proofs.YtojgopbaiflfgaaGreatDoor.B2

def codeB : ByteArray := ⟨#[44, 46, 44, 52, 56, 43, 46, 36]⟩
def tailB : ByteArray := ⟨#[49, 63]⟩
theorem printB_codeB : printB codeB = true := by kernel_rfl
theorem totB1 : totC codeB.size = 1 := by kernel_rfl
theorem runB : runT (padT codeB) [7#32, 1#32, 2#32, 3#32] 1000 = ([7, 49], 0, 8) := by kernel_rfl
theorem okB : ∀ i, i < 1 → PieceOk i 1 (pieceT (padT codeB) i) := fun i hi => by
  have := pieceOk codeB printB_codeB (by decide) i (by rw [totB1]; exact hi)
  rwa [totB1] at this
theorem stripsB : stripsL 7 codeB = [stripOf 7 1 (padT codeB) 0] := by
  unfold stripsL
  rw [totB1]
  rfl
def psB : List Pc := [pcOf 7 1 (padT codeB) 0, (tailB, 0, 0)]
theorem goodB : ∀ p ∈ psB, GoodP 7 1 (padT codeB) p := fun p hp => by
  rcases List.mem_cons.1 hp with rfl | hp
  · have hs := strip_size (arch := 7) (tot := 1) (T := padT codeB) (by decide) okB 0 (by decide)
    have hs' : (stripOf 7 1 (padT codeB) 0).size = 768 := hs
    refine ⟨Nat.le_of_eq hs'.symm, Nat.lt_of_le_of_lt (Nat.le_of_eq hs') (by decide), by decide, fun k hk => ?_, fun q hq => ?_, fun q hq => ?_⟩
    · have hk' : k + 768 ≤ (stripOf 7 1 (padT codeB) 0).size := hk
      obtain rfl : k = 0 := by omega
      exact strip_mark (arch := 7) (tot := 1) (T := padT codeB) (by decide) okB 0 0 (by decide)
    · have hq' : q < 1 := hq
      exact okB _ (show 4 * 0 + q < 1 by omega)
    · exact strip_cut (arch := 7) (tot := 1) (T := padT codeB) (by decide) okB 0 q hq
  · obtain rfl := List.mem_singleton.1 hp
    refine ⟨by decide, by decide, by decide, fun k hk => ?_, fun q hq => absurd hq (Nat.not_lt_zero _), fun q hq => absurd hq (Nat.not_lt_zero _)⟩
    have hk' : k + 768 ≤ 2 := hk
    omega
theorem inpB : inputL 7#32 (psB.map (·.1)) = [7#32, 1#32, 2#32, 3#32] := by
  have h := strip_mark (arch := 7) (tot := 1) (T := padT codeB) (by decide) okB 0 0 (by decide)
  have h0 : pieceIn (stripOf 7 1 (padT codeB) 0) = [] := by unfold pieceIn; rw [if_pos h]
  have h1 : pieceIn tailB = [1#32, 2#32, 3#32] := by kernel_rfl
  show 7#32 :: (pieceIn (stripOf 7 1 (padT codeB) 0) ++ (pieceIn tailB ++ [])) = _
  rw [h0, h1]
  rfl
theorem bootB : bootC (padT codeB) 1 (fsOf psB) (inputL 7#32 (psB.map (·.1))) 1000 = ([7, 49], 0, 8) := by
  have hf : fsOf psB = [0] := by rfl
  have hm : missL 1 [0] = [] := by rfl
  rw [inpB, hf, bootC, if_neg (by decide), if_pos hm, textTo_all (by rw [padT_size, totB1])]
  exact runB
set_option maxHeartbeats 4000000 in
theorem boots_any (w : World) (htab : Tab w) : Calls Tryz.prog 4 #[] w fun e w' => e = .returned (.bool true) ∧ Below w.heap.size w w' := by
  have HS := Keep.mk (strips_any codeB 7 (by decide) (by decide) printB_codeB w htab)
  have HTB := Keep.mk htab
  rw [stripsB] at HS
  unfold codeB at HS
  clear htab
  have HB : Keep (∀ (w : World) (v : Value), Tab w → Strs w v [stripOf 7 1 (padT codeB) 0, tailB] → Calls Tryz.prog 8 #[v, .int .u32 7, .int .i64 1000] w fun e w' => e = .returned (.agg #[.string ⟨#[7, 49]⟩, .int .i64 0, .int .i64 8]) ∧ Below w.heap.size w w') := ⟨fun w v ht hv => by
    have h := boot_any (w := w) (v := v) psB 7#32 1 (padT codeB) 1000 ht (by decide) hv goodB (by decide) (by
      have := congrArg ByteArray.size (textTo_all (T := padT codeB) (tot := 1) (by rw [padT_size, totB1]))
      rw [mkS_size, padT_size, totB1] at this
      omega) (by decide) (by decide)
    rw [bootB] at h
    exact h⟩
  go_enter Tryz.func4, Tryz.ntmps4
  go_wp2_with fail
  refine HS.out.mono ?_
  rintro _ w1 ⟨v1, rfl, hown1, hb1⟩
  obtain ⟨a1, c1, rfl⟩ := ownsRow_slice hown1
  have HO1 := Keep.mk hown1
  have HB1 := Keep.mk hb1
  clear hown1 hb1 HS
  have hb2 : Below w.heap.size w1 (w1.alloc (.cells #[.string ⟨#[49, 63]⟩] 9)) := (Below.refl _ _).alloc HB1.out.size _
  have HT2 : Keep (Strs (w1.alloc (.cells #[.string ⟨#[49, 63]⟩] 9)) (.slice (some ⟨w1.heap.size, 0, none⟩) 1 1) [tailB]) := ⟨Strs.made w1 [tailB] 9 (by decide)⟩
  have HO2 := Keep.mk (HO1.out.alloc (.cells #[.string ⟨#[49, 63]⟩] 9))
  have hsz : w.heap.size ≤ (w1.alloc (.cells #[.string ⟨#[49, 63]⟩] 9)).heap.size := Nat.le_trans HB1.out.size hb2.size
  have HB2 := Keep.mk (HB1.out.trans hb2)
  clear hb2
  go_upto_region 2 with (fail)
  go_wp2_with (at_builtin; go_must (refine wpList_append_ownstrs rfl _ _ rfl (base := w.heap.size) rfl HO2.out rfl HT2.out (by decide) hsz ?_); intro v2 w2 hown2 hb2; have HO3 := Keep.mk hown2; have HB3 := Keep.mk (HB2.out.trans hb2); clear hown2 hb2)
  refine (HB.out _ _ (HTB.out.below HB3.out) HO3.out.strs).mono ?_
  rintro _ w3 ⟨rfl, hb3⟩
  have HB4 := Keep.mk (HB3.out.trans (hb3.mono HB3.out.size))
  clear hb3 HB HB3 HO3 HO2 HT2 HB2 hsz HO1 HB1
  go_wp2_with fail
  go_ret
  exact ⟨rfl, HB4.out.alloc HB4.out.size _⟩
end Go.Proofs.YtojgopbaiflfgaaGreatDoor
