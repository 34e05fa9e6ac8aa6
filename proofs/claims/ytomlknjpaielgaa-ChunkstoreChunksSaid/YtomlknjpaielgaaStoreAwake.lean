/- The laws' check of the examples returns true. No condition. -/
import Derived.Test.YtomlknjpaielgaaStoreBegin
import Derived.Test.YtomlknjpaielgaaBytes
import Derived.Deep.DeepMust
namespace Go.Proofs.Ytomlknjpaielgaa
set_option maxRecDepth 100000
open Go.RowKit Go.Shelf Go.Proofs.Ytomlknjpaielgaa.Store Go.Proofs.Ytomlknjpaielgaa.Sparse

def abcS : ByteArray := ⟨#[97, 98, 99]⟩
def zeroS : ByteArray := mkS (List.replicate 40 0)
theorem segs_abc : segs abcS.data.toList = [(0, [97, 98, 99])] := by decide +kernel
theorem chunks_abc : (Chunk.split [97, 98, 99]) = [[97, 98, 99]] := by decide +kernel
theorem put_abc : putAll 1 [] ⟨#[]⟩ abcS = ([(dig abcS, (1, 0, 3))], abcS, [(1, 0, 3)]) := by
  have hc : chunkS [97, 98, 99] = [abcS] := by unfold chunkS; rw [chunks_abc]; rfl
  have e : (⟨#[]⟩ : ByteArray) ++ abcS = abcS := by decide +kernel
  unfold putAll
  rw [segs_abc]
  simp only [List.foldl_cons, List.foldl_nil]
  rw [putS, if_neg (by simp), hc]
  simp only [List.foldl_cons, List.foldl_nil]
  rw [putC_none rfl, e]
  rfl
theorem segs_zero : segs zeroS.data.toList = [(40, [])] := by rw [zeroS, data_mkS]; decide +kernel
theorem put_zero : putAll 1 [] ⟨#[]⟩ zeroS = ([], ⟨#[]⟩, [(0, 0, 40)]) := by
  unfold putAll
  rw [segs_zero]
  rfl
theorem Chks.nil (w : World) : Chks w (.slice none 0 0) [] := ⟨none, 0, rfl, Nat.le_refl _, by decide, rfl, .inl rfl⟩
theorem fit_nil (n : Nat) (h : n ≤ 1000000) : Fit n ([], ⟨#[]⟩, []) := ⟨by simp, by show 0 + n ≤ _; omega, by show 0 + n ≤ _; omega, by show 0 + n ≤ _; omega, by simp⟩

theorem made40 : (madeCells #[Value.int .u8 0] 40).toList = Lib.byteCells (List.replicate 40 0) := by kernel_rfl
theorem made_zero {wa w2 : World} (hown : w2.ownsRow wa.heap.size 5 1 (.slice (some ⟨wa.heap.size, 0, none⟩) 40 40) 40 (madeCells #[Value.int .u8 0] 40).toList) :
    OwnBytes wa w2 (.slice (some ⟨wa.heap.size, 0, none⟩) 40 40) (List.replicate 40 0) := by
  rw [made40] at hown
  exact ⟨_, 40, rfl, hown⟩

set_option maxHeartbeats 4000000 in
theorem awake_any (w : World) : Calls Try.prog 10 #[] w fun e w' => e = .returned (.bool true) ∧ Below w.heap.size w w' := by
  go_enter Try.func10, Try.ntmps10
  go_wp2_with fail
  refine (put_any (content := abcS) (Chks.nil w) (by decide) (by decide) (by decide) (fit_nil _ (by decide))).mono ?_
  rintro e w1 ⟨cv, ev, rfl, hc, he, hb⟩
  rw [put_abc] at hc he ⊢
  obtain ⟨ca, cc, rfl, _⟩ := hc.chks.parts
  have he := he.exts
  obtain ⟨ea, ec, rfl, _, _, hep⟩ := he.parts
  obtain ⟨b, o, rfl, _⟩ := hep 0 (1, 0, 3) rfl
  have B1 := Keep.mk hb
  have X1 := Keep.mk he
  clear hc he hep hb
  go_upto_region 2 with (fail)
  obtain ⟨wa, hwa⟩ : ∃ wa, wa = w1.alloc (.cells #[.slice ca 1 cc, .int .i64 1, .string abcS] 27) := ⟨_, rfl⟩
  have SA : Keep (Arr wa w1.heap.size 27 (storeCells (.slice ca 1 cc) 1 abcS)) := ⟨by rw [hwa]; exact Arr.new w1 _ _⟩
  have bA : Below w1.heap.size w1 wa := by rw [hwa]; exact (Below.refl _ _).alloc (Nat.le_refl _) _
  have XA := Keep.mk (X1.out.below bA (Nat.le_refl _))
  have BA := Keep.mk (B1.out.trans (bA.mono B1.out.size))
  change Code.wp _ _ _ _ (w1.alloc (.cells #[.slice ca 1 cc, .int .i64 1, .string abcS] 27))
  rw [← hwa]
  clear hwa bA B1 X1
  generalize w1.heap.size = P1 at *
  obtain ⟨i0, hi, hz0, hz1, hz2⟩ := info_parts Try.infoByteB
  go_wp2_with (with_reducible (show wpList _ _ _ (⟨some 15, _, _, _, _, _⟩ :: _) _ _); go_must (refine wpList_make_full wa (o := ⟨some 15, _, _, _, _, _⟩) rfl _ _ 57 rfl wa.heap.size 5 i0 (.int .u8 0) 1 Try.underlying57 hi hz0 hz1 _ _ 40 40 40 rfl rfl rfl rfl (by omega) (by unfold maxLen; omega) (Nat.le_refl _) ?_; intro w2 hown hg2; have hob := made_zero hown; have hrun := hob.run; have bg := (Below.refl wa.heap.size wa).grown hg2 (Nat.le_refl _) (fun _ h => by cases h); have S2 := Keep.mk (SA.out.below bg SA.out.lt); have X2 := Keep.mk (XA.out.below bg (Nat.le_refl _)); have B2 := Keep.mk (BA.out.trans (bg.mono BA.out.size)); clear hown hg2 hob bg SA XA BA hi hz0 hz1 hz2))
  refine (put_any (content := zeroS) (Chks.nil w2) (by decide) (by decide) (by decide +kernel) (fit_nil _ (by decide +kernel))).mono ?_
  rintro e w3 ⟨cv3, ev3, rfl, hc, he, hb⟩
  rw [put_zero] at hc he ⊢
  obtain ⟨ca3, cc3, rfl, _⟩ := hc.chks.parts
  have he := he.exts
  obtain ⟨ea3, ec3, rfl, h30, h31, hep⟩ := he.parts
  obtain ⟨b3, o3, rfl, hbl3, f0, f1, f2⟩ := hep 0 (0, 0, 40) rfl
  have S3 := Keep.mk (S2.out.below hb S2.out.lt)
  have X3 := Keep.mk (X2.out.below hb (Nat.le_refl _))
  have B3 := Keep.mk (B2.out.trans (hb.mono B2.out.size))
  clear hc he hep hb hrun S2 X2 B2
  rw [Nat.zero_mul, Nat.add_zero] at f0 f1 f2
  go_upto_region 3 with (fail)
  obtain ⟨wz, hwz⟩ : ∃ wz, wz = w3.alloc (.cells #[.slice ca3 0 cc3, .int .i64 1, .string ⟨#[]⟩] 27) := ⟨_, rfl⟩
  have bz : Below w3.heap.size w3 wz := by rw [hwz]; exact (Below.refl _ _).alloc (Nat.le_refl _) _
  have SZ : Arr wz w3.heap.size 27 (storeCells (.slice ca3 0 cc3) 1 ⟨#[]⟩) := by rw [hwz]; exact Arr.new w3 _ _
  have S4 := S3.out.below bz S3.out.lt
  have X4 := X3.out.below bz (Nat.le_refl _)
  have B4 := Keep.mk (B3.out.trans (bz.mono B3.out.size))
  change Code.wp _ _ _ _ (w3.alloc (.cells #[.slice ca3 0 cc3, .int .i64 1, .string ⟨#[]⟩] 27))
  rw [← hwz]
  have g0 := (bz.cell (p := ⟨b3, o3, none⟩) hbl3).trans f0
  have g1 := (bz.cell (p := ⟨b3, o3 + 1, none⟩) hbl3).trans f1
  have g2 := (bz.cell (p := ⟨b3, o3 + 2, none⟩) hbl3).trans f2
  obtain ⟨ea4, ec4, hv4, _, _, hp4⟩ := X4.parts
  simp only [Value.slice.injEq, true_and] at hv4
  obtain ⟨rfl, rfl⟩ := hv4
  obtain ⟨b', o', e', hbl', e0, e1, e2⟩ := hp4 0 (1, 0, 3) rfl
  simp only [Option.some.injEq, Addr.mk.injEq, and_true] at e'
  obtain ⟨rfl, rfl⟩ := e'
  rw [Nat.zero_mul, Nat.add_zero] at e0 e1 e2
  have s2 := S4.cell 2
  have z2 := SZ.cell 2
  simp only [storeCells, List.getElem?_cons_zero, List.getElem?_cons_succ] at s2 z2
  have q1 := run_eql_ext (1, 0, 3) (1, 0, 3)
  have q2 := run_eql_ext (0, 0, 40) (0, 0, 40)
  simp only [extA, decide_true] at q1 q2
  clear hwz bz f0 f1 f2 S3 X3 B3 S4 SZ X4 hp4
  generalize w3.heap.size = P3 at *
  have t1 : (abcS.toList == ([97, 98, 99] : List UInt8)) = true := by decide +kernel
  have t2 : (⟨#[]⟩ : ByteArray).toList.isEmpty = true := by decide +kernel
  generalize abcS = A at *
  go_wp2
  go_ret
  exact ⟨rfl, B4.out⟩
end Go.Proofs.Ytomlknjpaielgaa
