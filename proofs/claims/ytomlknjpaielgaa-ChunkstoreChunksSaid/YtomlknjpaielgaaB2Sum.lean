/- Sum of the program is the digest of the arguments' concatenation. Condition: at most a million bytes. -/
import Derived.Test.YtomlknjpaielgaaB2Bytes
import Derived.Test.YtomlknjpaielgaaRegion
namespace Go.Proofs.Ytomlknjpaielgaa
set_option maxRecDepth 100000
open Go.RowKit Go.Shelf Go.Proofs.Ytomlknjpaielgaa.B2

set_option maxRecDepth 100000 in
set_option maxHeartbeats 8000000 in
theorem sum_any {w : World} {v : Value} {l : List ByteArray} (hS : Strs w v l) (hn : l.length ≤ 1000000) (ht : (cat l).length ≤ 1000000) :
    Calls Try.prog 24 #[v] w fun e w' => e = .returned (.string (mkS (digest (cat l)))) ∧ Below w.heap.size w w' := by
  have HJ := Keep.mk (fun wx (hx : Below w.heap.size w wx) => join_any (w := wx) (hS.below hx (Nat.le_refl _)) hn ht)
  clear hS hn
  go_enter Try.func24, Try.ntmps24
  go_wp2_with fail
  refine (HJ.out w (Below.refl _ _)).mono ?_
  rintro e w1 ⟨rfl, hb1⟩
  clear HJ
  generalize hs : mkS (cat l) = s at *
  have hsl : s.data.toList = cat l := by rw [← hs]; exact data_mkS _
  have hsz : s.size ≤ 1000000 := by rw [← hs, size_mkS]; exact ht
  have HL := Keep.mk hsl
  clear hs hsl ht
  have HB1 := Keep.mk hb1
  clear hb1
  go_wp2_with fail
  refine (initial_any w1).mono ?_
  rintro e w2 ⟨rfl, hb2⟩
  have HB2 := Keep.mk (HB1.out.trans (hb2.mono HB1.out.size))
  clear HB1 hb2
  go_upto_region 3 with (refine wpList_store_arr (o := ⟨none, _, _, _, _, _⟩) rfl 78 _ _ rfl w2.heap.size _ (wvs (zeros 8)) (wvs iv) rfl rfl (Arr.new w2 _ (wvs (zeros 8))) Try.info8 rfl (wvs_one _) ?_; intro w3 hA3 hg3; have H3 := Keep.mk ((HB2.out.alloc HB2.out.size _).grown hg3 (by have := HB2.out.size; simp; omega) (fun _ h => by cases h; exact HB2.out.size)); have HD := HB2.out.size; have A3 := Keep.mk hA3; clear hg3 hA3 HB2)
  generalize w2.heap.size = H at *
  clear w2
  have c0 := A3.out.word (i := 0) (by decide)
  have f0 := A3.out.frozen 0
  have hx : bits .xor .u32 (W32 (iv.getD 0 0)) 16842784 = W32 (iv.getD 0 0 ^^^ 0x01010020#32) := by rw [← xor_W32]; rfl
  have A4 := Keep.mk (A3.out.setW 0 (iv.getD 0 0 ^^^ 0x01010020#32))
  have H4 := Keep.mk (H3.out.setCell (p := ⟨H, 0, none⟩) HD (.int .u32 (W32 (iv.getD 0 0 ^^^ 0x01010020#32))))
  rw [show iv.set 0 (iv.getD 0 0 ^^^ 0x01010020#32) = h0 from rfl] at A4
  generalize iv.getD 0 0 = z0 at *
  clear A3 H3
  go_wp2_with fail
  go_loopw [5] (fun i wr => ∃ k : Nat, k ≤ full s.size ∧ i = .int .i64 ((64 * k : Nat) : Int) ∧ Arr wr H 78 (wvs (state s.data.toList k)) ∧ Below w.heap.size w wr) (fun i _ => s.size - (intOf i).toNat)
  case atStart => exact ⟨0, by omega, rfl, A4.out, H4.out⟩
  case round =>
    obtain ⟨k, hk, rfl, hA, hB⟩ := hrel
    clear A4 H4 c0 f0 hx
    have HA := Keep.mk (And.intro hA hB)
    clear hA hB
    have h64 := full_le hk
    have hsub : IntKind.i64.wrap ((s.size : Int) - ((64 * k : Nat) : Int)) = (s.size : Int) - ((64 * k : Nat) : Int) := IntWalk.i64_in _ (by omega)
    by_cases hlt : 64 < (s.size : Int) - 64 * k
    · have hk1 := full_more hlt
      have h64' := full_le hk1
      have b0 : (0 : Int) ≤ ((64 * k : Nat) : Int) := by omega
      have b1 : ((64 * k : Nat) : Int) + 64 ≤ s.size := by omega
      have hlt' : (64 : Int) < (s.size : Int) - ((64 * k : Nat) : Int) := by omega
      have hzl := state_length s.data.toList k
      have HZ := Keep.mk (show state s.data.toList (k + 1) = compress (state s.data.toList k) ((s.data.toList.drop (64 * k)).take 64) (64 * k + 64) false from rfl)
      generalize hn : 64 * k = n at *
      generalize state s.data.toList k = z at *
      have t0 : ((n : Int) + 64).toNat = n + 64 := by omega
      have w0 : IntKind.i64.wrap ((n : Int) + 64) = (n : Int) + 64 := IntWalk.i64_in _ (by omega)
      have w1 : IntKind.u64.wrap ((n : Int) + 64) = (n : Int) + 64 := by rw [IntKind.wrap_u64]; omega
      have HAd := Keep.mk HA.out.1.drew
      have b2 : (0 : Int) ≤ (n : Int) + 64 := by omega
      have b3 : (n : Int) ≤ (n : Int) + 64 := by omega
      go_wp2_with fail
      refine wp_region_any (by kernel_rfl) ?_
      try (change wpAny _ _ _ _ _ _ _ (World.drew _))
      refine wpAny_take (i := 1) (v := ?v1) rfl (by kernel_rfl) (by kernel_rfl) (by kernel_rfl) (fun _ _ _ h => h) (Or.inl ⟨by rfl, ?h1⟩) ?_
      case h1 => (intro w; go_simp); try with_reducible rfl
      refine wpAny_take (i := 2) (v := ?v2) rfl (by kernel_rfl) (by kernel_rfl) (by kernel_rfl) (fun _ _ _ h => h) (Or.inl ⟨by rfl, ?h2⟩) ?_
      case h2 => (intro w; go_simp); try with_reducible rfl
      refine wpAny_take (i := 3) (v := ?v3) rfl (by kernel_rfl) (by kernel_rfl) (by kernel_rfl) (fun _ _ _ h => h) (Or.inl ⟨by rfl, ?h3⟩) ?_
      case h3 => (intro w; go_simp); try with_reducible rfl
      refine wpAny_take (i := 4) (v := ?v4) rfl (by kernel_rfl) (by kernel_rfl) (by kernel_rfl) (fun _ _ _ h => h) (Or.inl ⟨by rfl, ?h4⟩) ?_
      case h4 => (intro w; go_simp); try with_reducible rfl
      refine wpAny_take (i := 5) (v := ?v5) rfl (by kernel_rfl) (by kernel_rfl) (by kernel_rfl) (fun _ _ _ h => h) (Or.inl ⟨by rfl, ?h5⟩) ?_
      case h5 => (intro w; go_simp); try with_reducible rfl
      refine wpAny_take (i := 6) (v := ?v6) rfl (by kernel_rfl) (by kernel_rfl) (by kernel_rfl) (fun _ _ _ h => h) (Or.inl ⟨by rfl, ?h6⟩) ?_
      case h6 => (intro w; go_simp); try with_reducible rfl
      refine wpAny_take (i := 7) (v := ?v7) rfl (by kernel_rfl) (by kernel_rfl) (by kernel_rfl) (fun _ _ _ h => h) (Or.inl ⟨by rfl, ?h7⟩) ?_
      case h7 => (intro w; go_simp); try with_reducible rfl
      refine wpAny_take (i := 8) (v := ?v8) rfl (by kernel_rfl) (by kernel_rfl) (by kernel_rfl) (fun _ _ _ h => h) (Or.inl ⟨by rfl, ?h8⟩) ?_
      case h8 => (intro w; go_simp); try with_reducible rfl
      go_simp
      refine wpAny_load_arr 0 78 (.tmp 4) (some 23) (by kernel_rfl) rfl H 78 (wvs z) rfl HAd.out 8 77 Try.underlying78 (by rw [wvs_length, hzl]; exact Try.info8) ?_
      go_simp
      refine wpAny_enter 9 _ (some 32) (by kernel_rfl) rfl 39 #[.agg (wvs z).toArray, .string (s.extract n (n + 64)), .int .u64 ((n + 64 : Nat) : Int), .bool false] (by intro o ho; go_simp) _ (compress_any z hzl (s.extract n (n + 64)) (by rw [ByteArray.size_extract]; omega) (n + 64) (by omega) false wr.drew) ?_
      rintro e w5 ⟨rfl, hb5⟩
      refine ⟨_, rfl, ?_⟩
      rw [extract_list, show n + 64 - n = 64 by omega, ← HZ.out]
      have hzl2 := state_length s.data.toList (k + 1)
      have hA5 := Keep.mk (HAd.out.below hb5 HAd.out.lt)
      have hB5 := Keep.mk (HA.out.2.drew.trans (hb5.mono HA.out.2.drew.size))
      clear hb5 HAd HA HZ t0 w0 w1 b2 b3 hsub hlt hlt' b0
      generalize hz2 : state s.data.toList (k + 1) = z2 at *
      have HZ2 := Keep.mk hz2
      clear hz2
      refine wpAny_take (i := 10) (v := ?v10) rfl (by kernel_rfl) (by kernel_rfl) (by kernel_rfl) (fun _ _ _ h => h) (Or.inl ⟨by rfl, ?h10⟩) ?_
      case h10 => (intro w; go_simp); try with_reducible rfl
      refine wpAny_take (i := 11) (v := ?v11) rfl (by kernel_rfl) (by kernel_rfl) (by kernel_rfl) (fun _ _ _ h => h) (Or.inl ⟨by rfl, ?h11⟩) ?_
      case h11 => (intro w; go_simp); try with_reducible rfl
      refine wpAny_take (i := 12) (v := ?v12) rfl (by kernel_rfl) (by kernel_rfl) (by kernel_rfl) (fun _ _ _ h => h) (Or.inl ⟨by rfl, ?h12⟩) ?_
      case h12 => (intro w; go_simp); try with_reducible rfl
      go_simp
      refine wpAny_store_arr 13 78 (.tmp 4) (.tmp 33) none (by kernel_rfl) rfl H 78 (wvs z) (wvs z2) rfl rfl hA5.out (by rw [wvs_length, hzl2]; exact Try.info8) (by rw [wvs_length, wvs_length, hzl, hzl2]) (wvs_one _) ?_
      intro w6 hA6 hg6
      have H6 := Keep.mk (And.intro hA6 (hB5.out.grown hg6 (by have := hA5.out.lt; omega) (fun _ h => by cases h; exact HD)))
      clear hA6 hg6 hA5 hB5
      refine wpAny_done (by kernel_rfl) ?_ _
      go_simp
      clear hzl hzl2
      go_wp2
      go_roundw
      case rel => exact ⟨k + 1, hk1, congrArg (Value.int .i64) (by omega), by rw [HZ2.out]; exact H6.out.1, H6.out.2⟩
      case measure => simp [intOf]; omega
    · have hkf := full_done hlt hk
      have hlt' : ¬ (64 : Int) < (s.size : Int) - ((64 * k : Nat) : Int) := by omega
      have hzl := state_length s.data.toList k
      have hll := last_list s k hkf
      have hls := last_size s
      have HF := Keep.mk (show final s.data.toList = compress (state s.data.toList k) (lastBlock s.data.toList) s.size true from by rw [final, hkf]; simp)
      have HFl := final_length s.data.toList
      clear hk hkf
      generalize hn : 64 * k = n at *
      generalize state s.data.toList k = z at *
      clear hn hlt
      clear k
      have m0 : ((64 : Int) - ((s.size : Int) - (n : Int))).toNat = 64 - (s.size - n) := by omega
      have m1 : (0 : Int) ≤ (64 : Int) - ((s.size : Int) - (n : Int)) := by omega
      have m2 : IntKind.i64.wrap ((64 : Int) - ((s.size : Int) - (n : Int))) = (64 : Int) - ((s.size : Int) - (n : Int)) := IntWalk.i64_in _ (by omega)
      have m3 : (0 : Int) ≤ (n : Int) := by omega
      have m4 : (n : Int) ≤ (s.size : Int) := by omega
      go_wp2_with fail
      refine wp_region_any (by kernel_rfl) ?_
      try (change wpAny _ _ _ _ _ _ _ (World.drew _))
      refine wpAny_take (i := 0) (v := ?vr0) rfl (by kernel_rfl) (by kernel_rfl) (by kernel_rfl) (fun _ _ _ h => h) (Or.inl ⟨by rfl, ?hr0⟩) ?_
      case hr0 => (intro w; go_simp); try with_reducible rfl
      refine wpAny_take (i := 1) (v := ?vr1) rfl (by kernel_rfl) (by kernel_rfl) (by kernel_rfl) (fun _ _ _ h => h) (Or.inl ⟨by rfl, ?hr1⟩) ?_
      case hr1 => (intro w; go_simp); try with_reducible rfl
      refine wpAny_take (i := 2) (v := ?vr2) rfl (by kernel_rfl) (by kernel_rfl) (by kernel_rfl) (fun _ _ _ h => h) (Or.inl ⟨by rfl, ?hr2⟩) ?_
      case hr2 => (intro w; go_simp); try with_reducible rfl
      refine wpAny_take (i := 3) (v := ?vr3) rfl (by kernel_rfl) (by kernel_rfl) (by kernel_rfl) (fun _ _ _ h => h) (Or.inl ⟨by rfl, ?hr3⟩) ?_
      case hr3 => (intro w; go_simp); try with_reducible rfl
      refine wpAny_take (i := 4) (v := ?vr4) rfl (by kernel_rfl) (by kernel_rfl) (by kernel_rfl) (fun _ _ _ h => h) (Or.inl ⟨by rfl, ?hr4⟩) ?_
      case hr4 => (intro w; go_simp); try with_reducible rfl
      refine wpAny_take (i := 5) (v := ?vr5) rfl (by kernel_rfl) (by kernel_rfl) (by kernel_rfl) (fun _ _ _ h => h) (Or.inl ⟨by rfl, ?hr5⟩) ?_
      case hr5 => (intro w; go_simp); try with_reducible rfl
      refine wpAny_take (i := 6) (v := ?vr6) rfl (by kernel_rfl) (by kernel_rfl) (by kernel_rfl) (fun _ _ _ h => h) (Or.inl ⟨by rfl, ?hr6⟩) ?_
      case hr6 => (intro w; go_simp); try with_reducible rfl
      refine wpAny_take (i := 7) (v := ?vr7) rfl (by kernel_rfl) (by kernel_rfl) (by kernel_rfl) (fun _ _ _ h => h) (Or.inl ⟨by rfl, ?hr7⟩) ?_
      case hr7 => (intro w; go_simp); try with_reducible rfl
      go_simp
      refine wpAny_enter 8 _ (some 45) (by kernel_rfl) rfl 40 #[.string ⟨#[0]⟩, .int .i64 ((64 : Int) - ((s.size : Int) - (n : Int)))] (by intro o ho; go_simp) _ (repeat_any ⟨#[0]⟩ _ wr.drew m1 (by rw [m0]; show 1 * _ ≤ _; omega) (by omega)) ?_
      rintro e w5 ⟨rfl, hb5⟩
      refine ⟨_, rfl, ?_⟩
      have hrl : (mkS (Lib.repeatL [0] (64 - (s.size - n)))).data.toList = List.replicate (64 - (s.size - n)) 0 := by rw [data_mkS, repeatL_zero]
      rw [show (⟨#[0]⟩ : ByteArray).data.toList = [0] from rfl, m0]
      generalize mkS (Lib.repeatL [0] (64 - (s.size - n))) = r at *
      obtain ⟨d, hd⟩ : ∃ d, d = s.extract n s.size := ⟨_, rfl⟩
      rw [← hd] at hll ⊢
      obtain ⟨b, hb⟩ : ∃ b, b = d ++ r := ⟨_, rfl⟩
      have hbl : b.data.toList = lastBlock s.data.toList := by rw [hb, ← hll, ← hrl]; simp
      have hbs : b.size = 64 := by rw [← hls, ← hbl]; simp
      have hdr : d.size + r.size = 64 := by rw [← hbs, hb]; simp
      have hcat := fun (wx : World) => run_string_add_sum (P := Try.prog) wx d r (by omega)
      rw [← hb] at hcat
      have hA5 := Keep.mk (HA.out.1.drew.below hb5 HA.out.1.drew.lt)
      have hB5 := Keep.mk (HA.out.2.drew.trans (hb5.mono HA.out.2.drew.size))
      clear hb5 HA hd hb hrl hll hls m0 m1 m2 m3 m4 hlt' hsub h64
      refine wpAny_take (i := 9) (v := ?vr9) rfl (by kernel_rfl) (by kernel_rfl) (by kernel_rfl) (fun _ _ _ h => h) (Or.inl ⟨by rfl, ?hr9⟩) ?_
      case hr9 => (intro w; go_simp); try with_reducible rfl
      refine wpAny_take (i := 10) (v := ?vr10) rfl (by kernel_rfl) (by kernel_rfl) (by kernel_rfl) (fun _ _ _ h => h) (Or.inl ⟨by rfl, ?hr10⟩) ?_
      case hr10 => (intro w; go_simp); try with_reducible rfl
      refine wpAny_done (by kernel_rfl) ?_ _
      go_simp
      clear hcat hdr
      rw [← hbl] at HF
      have hsz' : (s.size : Int) < 18446744073709551616 := by omega
      have hsw : IntKind.u64.wrap ((s.size : Nat) : Int) = ((s.size : Nat) : Int) := by rw [IntKind.wrap_u64]; omega
      go_upto_region 10 with (first
        | (with_reducible (show wpList _ _ _ (⟨some 48, _, _, _, _, _⟩ :: _) _ _); refine wpList_load_arr (o := ⟨some 48, _, _, _, _, _⟩) rfl 78 _ rfl H _ (wvs z) rfl hA5.out 8 77 Try.underlying78 (by rw [wvs_length, hzl]; exact Try.info8) ?_)
        | (go_at_call 39; refine (compress_any z hzl b hbs s.size (by omega) true w5).mono ?_; rintro e w6 ⟨rfl, hb6⟩; rw [← HF.out]; have hA6 := Keep.mk (hA5.out.below hb6 hA5.out.lt); have hB6 := Keep.mk (hB5.out.trans (hb6.mono hB5.out.size)); clear hb6 hA5 hB5)
        | (with_reducible (show wpList _ _ _ (⟨none, _, _, _, _, _⟩ :: _) _ _); refine wpList_store_arr (o := ⟨none, _, _, _, _, _⟩) rfl 78 _ _ rfl H _ (wvs z) (wvs (final s.data.toList)) rfl rfl hA6.out (by rw [wvs_length, HFl]; exact Try.info8) (by rw [wvs_length, wvs_length, hzl, HFl]) (wvs_one _) ?_; intro w7 hA7 hg7; have H7 := Keep.mk (And.intro hA7 (hB6.out.grown hg7 (by have := hA6.out.lt; omega) (fun _ h => by cases h; exact HD))); clear hA7 hg7 hA6 hB6))
      clear hsz' hsw hbl hbs HF hzl
      have HB7 := H7.out.2
      have hsb := HB7.size
      obtain ⟨i0, hi0, hz0, hz1, hz2⟩ := info_parts Try.infoByteB
      go_upto_region 11 with (refine wpList_make_own _ rfl _ _ 57 rfl w.heap.size 5 i0 (.int .u8 0) 1 Try.underlying57 hi0 hz0 hz1 _ _ 32 32 rfl rfl (by omega) (by omega) (by unfold maxLen; omega) hsb ?_; intro w8 hown8 hg8)
      have H8 := Keep.mk (And.intro (show OwnBytes w w8 (.slice (some ⟨w7.heap.size, 0, none⟩) 0 32) [] from ⟨_, _, rfl, hown8⟩) (HB7.grown hg8 hsb (fun _ h => by cases h)))
      have HA8 := Keep.mk (H7.out.1.kept hg8 (by simp))
      clear hown8 hg8 H7 HB7 hsb hi0 hz0 hz1 hz2
      generalize hfz : final s.data.toList = z2 at *
      have HFZ := Keep.mk hfz
      clear hfz
      go_wp2_with (with_reducible (show wpList _ _ _ (⟨some 57, _, _, _, _, _⟩ :: _) _ _); refine wpList_load_arr (o := ⟨some 57, _, _, _, _, _⟩) rfl 78 _ rfl H _ (wvs z2) rfl HA8.out 8 77 Try.underlying78 (by rw [wvs_length, HFl]; exact Try.info8) ?_)
      generalize hwo : wr = wo at *
      go_loopw [58, 7] (fun i v wr => ∃ j : Nat, j ≤ 8 ∧ i = .int .i64 j ∧ OwnBytes w wr v ((z2.take j).flatMap bytes4) ∧ Below w.heap.size w wr) (fun i _ _ => 8 - (intOf i).toNat)
      case atStart => exact ⟨0, by omega, rfl, by simpa using H8.out.1, H8.out.2⟩
      case round =>
        obtain ⟨j, hj, rfl, hO, hB⟩ := hrel
        clear H8 HA8 hwo wo
        have HOB := Keep.mk (And.intro hO hB)
        clear hO hB
        by_cases hlt : j < 8
        · have j0 : (0 : Int) ≤ j := by omega
          have j1 : (j : Int) < 8 := by omega
          have hix := run_index_word z2 HFl j hlt wr
          have hstep := Keep.mk (take_bytes z2 (k := j) (by omega))
          have hlen := Keep.mk (flat4_length (z2.take j))
          have hlen2 : (z2.take j).length ≤ 8 := by rw [List.length_take]; omega
          generalize z2.getD j 0 = x at *
          generalize hacc : (z2.take j).flatMap bytes4 = acc at *
          have hal : acc.length ≤ 32 := by have := hlen.out; omega
          clear hacc hlen2
          go_wp2_with (at_builtin; refine wpList_append_some (w0 := w) rfl (.tmp 61) (.tmp 73) rfl rfl HOB.out.1 HOB.out.2 [.int .u8 (W32 x % 256), .int .u8 (W32 x / 256 % 256), .int .u8 (W32 x / 65536 % 256), .int .u8 (W32 x / 16777216 % 256)] (cells4 x) rfl (by simp [bytes4]) (by simp [bytes4]; omega) ?_; intro v2 w9 hO2 hB2; rw [← hstep.out] at hO2; have H9 := Keep.mk (And.intro hO2 hB2); clear hO2 hB2 HOB)
          go_roundw
          case rel => exact ⟨j + 1, by omega, by go_num, H9.out.1, H9.out.2⟩
          case measure => simp [intOf]; omega
        · have hj8 : j = 8 := by omega
          subst hj8
          rw [List.take_of_length_le (Nat.le_of_eq HFl)] at HOB
          have hrun := HOB.out.1.run
          go_wp2
          go_ret
          exact ⟨by rw [← HL.out, digest, HFZ.out]; rfl, HOB.out.2⟩
end Go.Proofs.Ytomlknjpaielgaa
