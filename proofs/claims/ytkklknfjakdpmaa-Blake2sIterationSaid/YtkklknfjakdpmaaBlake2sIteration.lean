/- The law Blake2sIteration: the digest is the result of compressing the blocks one after the other. No condition. -/
import Derived.Test.YtkklknfjakdpmaaB2Alive
import Derived.Test.YtkklknfjakdpmaaB2Great
import Derived.Test.YtkklknfjakdpmaaOpenStrs
import Derived.Deep.QuietTactic
import Derived.BigQuiet
namespace Go.Proofs.Ytkklknfjakdpmaa
open Go.RowKit Go.Shelf Go.Proofs.Ytkklknfjakdpmaa.B2 Go.ChangeShapes Go.WideShapes Go.ChangeAt
open Go.ChangeMaps (open_string shut_string)

/-- Where the loop's call has come to: the new state in a block of its own. -/
def IterCut (H : Nat) (w : World) (z z2 : List B2.W) (v5 v6 : Value) (wx : World) : Prop :=
  ∃ G, v5 = .pointer (some ⟨G, 0, none⟩) ∧ v6 = .int .i64 0 ∧ H ≠ G ∧ w.heap.size ≤ G ∧ Arr wx G 32 (wvs z2) ∧ Arr wx H 32 (wvs z) ∧ Below w.heap.size w wx
theorem compress_to (h : List B2.W) (hh : h.length = 8) (s : ByteArray) (hs : s.size = 64) (count : Nat) (hc : count < 18446744073709551616) (last : Bool) (w : World) (c : Int) (hcc : c = (count : Int)) :
    Calls Try.prog 15 #[.agg (wvs h).toArray, .string s, .int .u64 c, .bool last] w fun e w' =>
      e = .returned (.tuple #[.agg (wvs (compress h s.data.toList count last)).toArray, .int .i64 0]) ∧ Below w.heap.size w w' := by
  subst hcc; exact compress_any h hh s hs count hc last w

set_option maxRecDepth 100000 in
set_option maxHeartbeats 8000000 in
theorem blake2sIteration_any (s : ByteArray) (hs : s.size ≤ maxLen) (w : World) :
    Calls Try.prog 6 #[.string s] w fun e w' => e = .returned (.bool true) ∧ Below w.heap.size w w' := by
  unfold maxLen at hs
  go_enter Try.func6, Try.ntmps6
  go_wp2_with fail
  refine (alive_any _).mono ?_
  rintro e w1 ⟨rfl, hb1⟩
  have HB1 := Keep.mk hb1
  clear hb1
  by_cases hbig : 1000 < s.size
  · have hbig' : (1000 : Int) < (s.size : Int) := by omega
    go_wp2_with fail
    go_ret
    exact ⟨rfl, HB1.out⟩
  have hbig' : ¬ (1000 : Int) < (s.size : Int) := by omega
  have hsz : s.size ≤ 1000 := by omega
  clear hbig
  go_wp2_with fail
  refine (refInitial_any w1).mono ?_
  rintro e w2 ⟨rfl, hb2⟩
  have HB2 := Keep.mk (HB1.out.trans (hb2.mono HB1.out.size))
  clear HB1 hb2
  go_upto_region 6 with (refine wpList_store_arr (o := ⟨none, _, _, _, _, _⟩) rfl 32 _ _ rfl w2.heap.size _ (wvs (zeros 8)) (wvs iv) rfl rfl (Arr.new w2 _ (wvs (zeros 8))) Try.info8 rfl (wvs_one _) ?_; intro w3 hA3 hg3; have H3 := Keep.mk ((HB2.out.alloc HB2.out.size _).grown hg3 (by have := HB2.out.size; simp; omega) (fun _ h => by cases h; exact HB2.out.size)); have HD := HB2.out.size; have A3 := Keep.mk hA3; clear hg3 hA3 HB2)
  generalize w2.heap.size = H at *
  clear w2
  have c0 := A3.out.word (i := 0) (by decide)
  have f0 := A3.out.frozen 0
  have hx : bits .xor .u32 (W32 (iv.getD 0 0)) 16842784 = W32 (iv.getD 0 0 ^^^ 0x01010020#32) := by rw [← xor_W32]; rfl
  have A4 := Keep.mk (A3.out.setW 0 (iv.getD 0 0 ^^^ 0x01010020#32))
  have H4 := Keep.mk (H3.out.setCell (p := ⟨H, 0, none⟩) HD (.int .u32 (W32 (iv.getD 0 0 ^^^ 0x01010020#32))))
  rw [show iv.set 0 (iv.getD 0 0 ^^^ 0x01010020#32) = state s.data.toList 0 from rfl] at A4
  generalize iv.getD 0 0 = z0 at *
  clear A3 H3
  go_wp2_with fail
  go_loopw [4] (fun v wr => ∃ (k : Nat) (x : ByteArray), k ≤ full s.size ∧ v = .string x ∧ x.data.toList = s.data.toList.drop (64 * k) ∧ Arr wr H 32 (wvs (state s.data.toList k)) ∧ Below w.heap.size w wr) (fun v _ => strLen v)
  case atStart => exact ⟨0, s, by omega, rfl, by simp, A4.out, H4.out⟩
  case round =>
    obtain ⟨k, x, hk, rfl, hxd, hA, hB⟩ := hrel
    clear A4 H4 c0 f0 hx
    have HA := Keep.mk (And.intro hA hB)
    clear hA hB
    have h64 := full_le hk
    have hxs : x.size = s.size - 64 * k := by
      have h1 : x.data.toList.length = x.size := by simp
      have h2 : s.data.toList.length = s.size := by simp
      rw [← h1, hxd, List.length_drop, h2]
    have HX := Keep.mk hxd
    clear hxd
    by_cases hlt : 64 < x.size
    · have hk1 := full_more (n := s.size) (k := k) (by omega)
      have h64' := full_le hk1
      have hlt' : (64 : Int) < (x.size : Int) := by omega
      have hzl := state_length s.data.toList k
      have hzl2 := state_length s.data.toList (k + 1)
      have HZ := Keep.mk (show state s.data.toList (k + 1) = compress (state s.data.toList k) ((s.data.toList.drop (64 * k)).take 64) (64 * k + 64) false from rfl)
      rw [← HX.out] at HZ
      generalize hn : 64 * k = n at *
      generalize state s.data.toList k = z at *
      generalize hz2 : state s.data.toList (k + 1) = z2 at *
      have HZ2 := Keep.mk hz2
      have HN := Keep.mk hn
      clear hz2 hn
      have w0 : IntKind.i64.wrap ((s.size : Int) - (x.size : Int)) = (n : Int) := by rw [IntWalk.i64_in _ (by omega)]; omega
      have w1' : IntKind.i64.wrap ((n : Int) + 64) = (n : Int) + 64 := IntWalk.i64_in _ (by omega)
      have w2' : IntKind.u64.wrap ((n : Int) + 64) = (n : Int) + 64 := by rw [IntKind.wrap_u64]; omega
      have b1 : (64 : Int) ≤ (x.size : Int) := by omega
      have HXS := Keep.mk hxs
      clear hxs
      go_wp2_with fail
      have HAd := Keep.mk HA.out.1.drew
      have HBd := Keep.mk HA.out.2.drew
      have HCP := Keep.mk (fun (wx : World) => (compress_to z hzl (x.extract 0 64) (by rw [ByteArray.size_extract]; omega) (n + 64) (by omega) false wx ((n : Int) + 64) (by omega)))
      rw [extract_take, data_mkS, ← HZ.out] at HCP
      rw [← extract_take] at HCP
      go_cut [5, 6] from 24 to 37 (fun v5 v6 wx => IterCut H w z z2 v5 v6 wx)
      case first =>
        clear HX HZ HZ2 HN HXS
        refine wp_region_any (by kernel_rfl) ?_
        try (change wpAny _ _ _ _ _ _ _ (World.drew _))
        refine wpAny_take (i := 1) (v := ?vr1q1) rfl (by kernel_rfl) (by kernel_rfl) (by kernel_rfl) (fun _ _ _ h => h) (Or.inl ⟨by rfl, ?hr1q1⟩) ?_
        case hr1q1 => (intro w; go_simp); try with_reducible rfl
        refine wpAny_take (i := 2) (v := ?vr2q2) rfl (by kernel_rfl) (by kernel_rfl) (by kernel_rfl) (fun _ _ _ h => h) (Or.inl ⟨by rfl, ?hr2q2⟩) ?_
        case hr2q2 => (intro w; go_simp); try with_reducible rfl
        refine wpAny_take (i := 3) (v := ?vr3q3) rfl (by kernel_rfl) (by kernel_rfl) (by kernel_rfl) (fun _ _ _ h => h) (Or.inl ⟨by rfl, ?hr3q3⟩) ?_
        case hr3q3 => (intro w; go_simp); try with_reducible rfl
        refine wpAny_take (i := 4) (v := ?vr4q4) rfl (by kernel_rfl) (by kernel_rfl) (by kernel_rfl) (fun _ _ _ h => h) (Or.inl ⟨by rfl, ?hr4q4⟩) ?_
        case hr4q4 => (intro w; go_simp); try with_reducible rfl
        refine wpAny_take (i := 5) (v := ?vr5q5) rfl (by kernel_rfl) (by kernel_rfl) (by kernel_rfl) (fun _ _ _ h => h) (Or.inl ⟨by rfl, ?hr5q5⟩) ?_
        case hr5q5 => (intro w; go_simp); try with_reducible rfl
        refine wpAny_take (i := 6) (v := ?vr6q6) rfl (by kernel_rfl) (by kernel_rfl) (by kernel_rfl) (fun _ _ _ h => h) (Or.inl ⟨by rfl, ?hr6q6⟩) ?_
        case hr6q6 => (intro w; go_simp); try with_reducible rfl
        refine wpAny_take (i := 7) (v := ?vr7q7) rfl (by kernel_rfl) (by kernel_rfl) (by kernel_rfl) (fun _ _ _ h => h) (Or.inl ⟨by rfl, ?hr7q7⟩) ?_
        case hr7q7 => (intro w; go_simp); try with_reducible rfl
        refine wpAny_take (i := 8) (v := ?vr8q8) rfl (by kernel_rfl) (by kernel_rfl) (by kernel_rfl) (fun _ _ _ h => h) (Or.inl ⟨by rfl, ?hr8q8⟩) ?_
        case hr8q8 => (intro w; go_simp); try with_reducible rfl
        refine wpAny_take (i := 9) (v := ?vr9q9) rfl (by kernel_rfl) (by kernel_rfl) (by kernel_rfl) (fun _ _ _ h => h) (Or.inl ⟨by rfl, ?hr9q9⟩) ?_
        case hr9q9 => (intro w; go_simp); try with_reducible rfl
        go_simp
        refine wpAny_ready (rs := [0, 14]) (by kernel_rfl) (by simp) (AllReady.cons rfl (fun K hK => ?_) (AllReady.cons rfl (fun K hK => ?_) AllReady.nil))
        · rw [if_pos (by rfl)]
          refine wp_load_row 32 (.tmp 3) rfl H rfl 32 _ (0, 0) _ HAd.out Try.underlying32 rfl (by rw [List.size_toArray, wvs_length, hzl]; exact Try.info8) (hK _ _ ?_)
          clear hK K
          go_simp
          refine wpAny_ready (rs := [10, 14]) (by kernel_rfl) (by simp) (AllReady.cons rfl (fun K hK => ?_) (AllReady.cons rfl (fun K hK => ?_) AllReady.nil))
          · rw [if_pos (by rfl)]
            go_simp
            refine (HCP.out _).mono ?_
            rintro e w5 ⟨rfl, hb5⟩
            refine hK _ _ ?_
            clear hK K
            have A5 := HAd.out.below hb5 HAd.out.lt
            have B5 := HBd.out.trans (hb5.mono HBd.out.size)
            clear hb5
            have K5 := Keep.mk (And.intro A5 B5)
            clear A5 B5
            refine wpAny_take (i := 11) (v := ?vr11q10) rfl (by kernel_rfl) (by kernel_rfl) (by kernel_rfl) (fun _ _ _ h => h) (Or.inl ⟨by rfl, ?hr11q10⟩) ?_
            case hr11q10 => (intro w; go_simp); try with_reducible rfl
            refine wpAny_take (i := 12) (v := ?vr12q11) rfl (by kernel_rfl) (by kernel_rfl) (by kernel_rfl) (fun _ _ _ h => h) (Or.inl ⟨by rfl, ?hr12q11⟩) ?_
            case hr12q11 => (intro w; go_simp); try with_reducible rfl
            refine wpAny_take (i := 13) (v := ?vr13q12) rfl (by kernel_rfl) (by kernel_rfl) (by kernel_rfl) (fun _ _ _ h => h) (Or.inl ⟨by rfl, ?hr13q12⟩) ?_
            case hr13q12 => (intro w; go_simp); try with_reducible rfl
            go_simp
            refine wpAny_ready (rs := [14]) (by kernel_rfl) (by simp) (AllReady.cons rfl (fun K hK => ?_) AllReady.nil)
            rw [if_pos (by rfl)]
            go_simp
            refine hK _ _ ?_
            clear hK K
            have hHG : H ≠ w5.heap.size := Nat.ne_of_lt K5.out.1.lt
            have hGw := K5.out.2.size
            have BA := K5.out.2.alloc hGw (.cells (wvs (zeros 8)).toArray 32)
            refine wpAny_store_arr 15 32 (.tmp 5) (.tmp 36) none (by kernel_rfl) rfl w5.heap.size 32 (wvs (zeros 8)) (wvs z2) rfl rfl (Arr.new w5 _ (wvs (zeros 8))) (by rw [wvs_length, hzl2]; exact Try.info8) (by rw [wvs_length, wvs_length, hzl2]; rfl) (wvs_one _) ?_
            intro w6 hA6 hg6
            have H6 := Keep.mk (And.intro hA6 (And.intro ((K5.out.1.alloc _).kept hg6 (by intro h; cases h; exact hHG rfl)) (BA.grown hg6 BA.size (fun _ h => by cases h; exact hGw))))
            clear hA6 hg6
            refine wpAny_take (i := 16) (v := ?vr16q13) rfl (by kernel_rfl) (by kernel_rfl) (by kernel_rfl) (fun _ _ _ h => h) (Or.inl ⟨by rfl, ?hr16q13⟩) ?_
            case hr16q13 => (intro w; go_simp); try with_reducible rfl
            refine wpAny_done (by kernel_rfl) ?_ _
            go_wp2
            go_meet
            exact ⟨_, rfl, rfl, hHG, hGw, H6.out.1, H6.out.2.1, H6.out.2.2⟩
          · rw [if_pos (by rfl)]
            go_simp
            refine hK _ _ ?_
            clear hK K
            have hHG : H ≠ wr.heap.size := Nat.ne_of_lt HA.out.1.lt
            have hGw := HA.out.2.size
            have AG := Keep.mk (Arr.new wr 32 (wvs (zeros 8))).drew
            have AH := Keep.mk (HA.out.1.alloc (.cells (wvs (zeros 8)).toArray 32)).drew
            have AB := Keep.mk (HA.out.2.alloc hGw (.cells (wvs (zeros 8)).toArray 32)).drew
            change wpAny _ _ _ _ _ _ _ (wr.alloc (.cells (wvs (zeros 8)).toArray 32)).drew
            generalize (wr.alloc (.cells (wvs (zeros 8)).toArray 32)).drew = wa at *
            generalize wr.heap.size = G at *
            refine wpAny_ready (rs := [10]) (by kernel_rfl) (by simp) (AllReady.cons rfl (fun K hK => ?_) AllReady.nil)
            rw [if_pos (by rfl)]
            go_simp
            refine (HCP.out _).mono ?_
            rintro e w5 ⟨rfl, hb5⟩
            refine hK _ _ ?_
            clear hK K
            have AG5 := AG.out.below hb5 AG.out.lt
            have AH5 := AH.out.below hb5 AH.out.lt
            have AB5 := AB.out.trans (hb5.mono AB.out.size)
            clear hb5
            have K5 := Keep.mk (And.intro AG5 (And.intro AH5 AB5))
            clear AG5 AH5 AB5
            refine wpAny_take (i := 11) (v := ?vr11q14) rfl (by kernel_rfl) (by kernel_rfl) (by kernel_rfl) (fun _ _ _ h => h) (Or.inl ⟨by rfl, ?hr11q14⟩) ?_
            case hr11q14 => (intro w; go_simp); try with_reducible rfl
            refine wpAny_take (i := 12) (v := ?vr12q15) rfl (by kernel_rfl) (by kernel_rfl) (by kernel_rfl) (fun _ _ _ h => h) (Or.inl ⟨by rfl, ?hr12q15⟩) ?_
            case hr12q15 => (intro w; go_simp); try with_reducible rfl
            refine wpAny_take (i := 13) (v := ?vr13q16) rfl (by kernel_rfl) (by kernel_rfl) (by kernel_rfl) (fun _ _ _ h => h) (Or.inl ⟨by rfl, ?hr13q16⟩) ?_
            case hr13q16 => (intro w; go_simp); try with_reducible rfl
            go_simp
            refine wpAny_store_arr 15 32 (.tmp 5) (.tmp 36) none (by kernel_rfl) rfl G 32 (wvs (zeros 8)) (wvs z2) rfl rfl K5.out.1 (by rw [wvs_length, hzl2]; exact Try.info8) (by rw [wvs_length, wvs_length, hzl2]; rfl) (wvs_one _) ?_
            intro w6 hA6 hg6
            have H6 := Keep.mk (And.intro hA6 (And.intro (K5.out.2.1.kept hg6 (by intro h; cases h; exact hHG rfl)) (K5.out.2.2.grown hg6 K5.out.2.2.size (fun _ h => by cases h; exact hGw))))
            clear hA6 hg6
            refine wpAny_take (i := 16) (v := ?vr16q17) rfl (by kernel_rfl) (by kernel_rfl) (by kernel_rfl) (fun _ _ _ h => h) (Or.inl ⟨by rfl, ?hr16q17⟩) ?_
            case hr16q17 => (intro w; go_simp); try with_reducible rfl
            refine wpAny_done (by kernel_rfl) ?_ _
            go_wp2
            go_meet
            exact ⟨_, rfl, rfl, hHG, hGw, H6.out.1, H6.out.2.1, H6.out.2.2⟩
        · rw [if_pos (by rfl)]
          go_simp
          refine hK _ _ ?_
          clear hK K
          have hHG : H ≠ wr.heap.size := Nat.ne_of_lt HA.out.1.lt
          have hGw := HA.out.2.size
          have AG := Keep.mk (Arr.new wr 32 (wvs (zeros 8))).drew
          have AH := Keep.mk (HA.out.1.alloc (.cells (wvs (zeros 8)).toArray 32)).drew
          have AB := Keep.mk (HA.out.2.alloc hGw (.cells (wvs (zeros 8)).toArray 32)).drew
          change wpAny _ _ _ _ _ _ _ (wr.alloc (.cells (wvs (zeros 8)).toArray 32)).drew
          generalize (wr.alloc (.cells (wvs (zeros 8)).toArray 32)).drew = wa at *
          generalize wr.heap.size = G at *
          refine wpAny_load_arr 0 32 (.tmp 3) (some 25) (by kernel_rfl) rfl H 32 (wvs z) rfl AH.out 8 31 Try.underlying32 (by rw [wvs_length, hzl]; exact Try.info8) ?_
          go_simp
          refine wpAny_ready (rs := [10]) (by kernel_rfl) (by simp) (AllReady.cons rfl (fun K hK => ?_) AllReady.nil)
          rw [if_pos (by rfl)]
          go_simp
          refine (HCP.out _).mono ?_
          rintro e w5 ⟨rfl, hb5⟩
          refine hK _ _ ?_
          clear hK K
          have AG5 := AG.out.below hb5 AG.out.lt
          have AH5 := AH.out.below hb5 AH.out.lt
          have AB5 := AB.out.trans (hb5.mono AB.out.size)
          clear hb5
          have K5 := Keep.mk (And.intro AG5 (And.intro AH5 AB5))
          clear AG5 AH5 AB5
          refine wpAny_take (i := 11) (v := ?vr11q18) rfl (by kernel_rfl) (by kernel_rfl) (by kernel_rfl) (fun _ _ _ h => h) (Or.inl ⟨by rfl, ?hr11q18⟩) ?_
          case hr11q18 => (intro w; go_simp); try with_reducible rfl
          refine wpAny_take (i := 12) (v := ?vr12q19) rfl (by kernel_rfl) (by kernel_rfl) (by kernel_rfl) (fun _ _ _ h => h) (Or.inl ⟨by rfl, ?hr12q19⟩) ?_
          case hr12q19 => (intro w; go_simp); try with_reducible rfl
          refine wpAny_take (i := 13) (v := ?vr13q20) rfl (by kernel_rfl) (by kernel_rfl) (by kernel_rfl) (fun _ _ _ h => h) (Or.inl ⟨by rfl, ?hr13q20⟩) ?_
          case hr13q20 => (intro w; go_simp); try with_reducible rfl
          go_simp
          refine wpAny_store_arr 15 32 (.tmp 5) (.tmp 36) none (by kernel_rfl) rfl G 32 (wvs (zeros 8)) (wvs z2) rfl rfl K5.out.1 (by rw [wvs_length, hzl2]; exact Try.info8) (by rw [wvs_length, wvs_length, hzl2]; rfl) (wvs_one _) ?_
          intro w6 hA6 hg6
          have H6 := Keep.mk (And.intro hA6 (And.intro (K5.out.2.1.kept hg6 (by intro h; cases h; exact hHG rfl)) (K5.out.2.2.grown hg6 K5.out.2.2.size (fun _ h => by cases h; exact hGw))))
          clear hA6 hg6
          refine wpAny_take (i := 16) (v := ?vr16q21) rfl (by kernel_rfl) (by kernel_rfl) (by kernel_rfl) (fun _ _ _ h => h) (Or.inl ⟨by rfl, ?hr16q21⟩) ?_
          case hr16q21 => (intro w; go_simp); try with_reducible rfl
          refine wpAny_done (by kernel_rfl) ?_ _
          go_wp2
          go_meet
          exact ⟨_, rfl, rfl, hHG, hGw, H6.out.1, H6.out.2.1, H6.out.2.2⟩
      case rest =>
      obtain ⟨G, rfl, rfl, hHG, hGw, hAG, hAH, hB⟩ := hcut
      have K9 := Keep.mk (And.intro hAG (And.intro hAH hB))
      clear hAG hAH hB HA HAd HBd HCP
      go_wp2_with fail
      have AG := Keep.mk K9.out.1.drew
      have AH := Keep.mk K9.out.2.1.drew
      have AB := Keep.mk K9.out.2.2.drew
      have HW := K9.out.2.2.size
      clear K9
      refine wp_region_any (by kernel_rfl) ?_
      try (change wpAny _ _ _ _ _ _ _ (World.drew _))
      refine wpAny_take (i := 1) (v := ?vr1q22) rfl (by kernel_rfl) (by kernel_rfl) (by kernel_rfl) (fun _ _ _ h => h) (Or.inl ⟨by rfl, ?hr1q22⟩) ?_
      case hr1q22 => (intro w; go_simp); try with_reducible rfl
      refine wpAny_take (i := 2) (v := ?vr2q23) rfl (by kernel_rfl) (by kernel_rfl) (by kernel_rfl) (fun _ _ _ h => h) (Or.inl ⟨by rfl, ?hr2q23⟩) ?_
      case hr2q23 => (intro w; go_simp); try with_reducible rfl
      go_simp
      generalize wc.drew = wd at *
      refine wpAny_load_arr 0 32 (.tmp 5) (some 40) (by kernel_rfl) rfl G 32 (wvs z2) rfl AG.out 8 31 Try.underlying32 (by rw [wvs_length, hzl2]; exact Try.info8) ?_
      go_simp
      refine wpAny_store_arr 3 32 (.tmp 3) (.tmp 40) none (by kernel_rfl) rfl H 32 (wvs z) (wvs z2) rfl rfl AH.out (by rw [wvs_length, hzl2]; exact Try.info8) (by rw [wvs_length, wvs_length, hzl, hzl2]) (wvs_one _) ?_
      intro w6 hA6 hg6
      have H6 := Keep.mk (And.intro hA6 (AB.out.grown hg6 AB.out.size (fun _ h => by cases h; exact HD)))
      clear hA6 hg6 AG AH AB
      refine wpAny_take (i := 4) (v := ?vr4q24) rfl (by kernel_rfl) (by kernel_rfl) (by kernel_rfl) (fun _ _ _ h => h) (Or.inl ⟨by rfl, ?hr4q24⟩) ?_
      case hr4q24 => (intro w; go_simp); try with_reducible rfl
      go_simp
      refine wpAny_done (by kernel_rfl) ?_ _
      go_wp2
      go_roundw
      case rel => exact ⟨k + 1, x.extract 64 x.size, hk1, rfl, by rw [extract_drop, data_mkS, HX.out, List.drop_drop, ← HN.out]; rfl, by rw [HZ2.out]; exact H6.out.1, H6.out.2⟩
      case measure => rw [strLen_eq, strLen_eq, ByteArray.size_extract]; omega
    · have hlt' : ¬ (64 : Int) < (x.size : Int) := by omega
      have hkf : k = full s.size := full_done (by omega) hk
      have hl : s.data.toList.length = s.size := by simp
      have HLB : ∀ j, x.size + j = 64 → lastBlock s.data.toList = x.data.toList ++ List.replicate j 0 := fun j hj => by
        rw [lastBlock, hl, ← hkf, ← HX.out]
        congr 2
        omega
      have HLB' := Keep.mk HLB
      have HF := Keep.mk (show final s.data.toList = compress (state s.data.toList k) (lastBlock s.data.toList) s.size true by rw [final, hl, ← hkf])
      have hzl := state_length s.data.toList k
      have HFl := final_length s.data.toList
      generalize state s.data.toList k = z at *
      have hx64 : x.size ≤ 64 := by omega
      clear HX hkf hl HLB hk hxs h64
      go_wp2_with fail
      generalize hwo : wr = wo at *
      go_loopw [4] (fun v wi => ∃ (b : ByteArray) (j : Nat), v = .string b ∧ b.data.toList = x.data.toList ++ List.replicate j 0 ∧ x.size + j ≤ 64 ∧ Keep (wo = wi)) (fun v _ => 64 - strLen v)
      case atStart => exact ⟨x, 0, rfl, by simp, by omega, ⟨rfl⟩⟩
      case round =>
        obtain ⟨b, j, rfl, hb, hj, hw⟩ := hrel
        have hbs : b.size = x.size + j := by
          have h1 : b.data.toList.length = b.size := by simp
          have h2 : x.data.toList.length = x.size := by simp
          rw [← h1, hb, List.length_append, h2, List.length_replicate]
        have HBB := Keep.mk hb
        clear hb
        by_cases hlt2 : b.size < 64
        · have hlt2' : (b.size : Int) < 64 := by omega
          have hcat := fun (wx : World) => run_string_add_sum (P := Try.prog) wx b ⟨#[0]⟩ (by show b.size + 1 ≤ _; omega)
          have hb2 : (b ++ ⟨#[0]⟩).data.toList = x.data.toList ++ List.replicate (j + 1) 0 := by
            rw [List.replicate_succ', ← List.append_assoc, ← HBB.out]; simp
          have hbz : (b ++ ⟨#[0]⟩).size = b.size + 1 := by simp; rfl
          have HB2 := Keep.mk (And.intro hb2 hbz)
          have HS2 := Keep.mk hbs
          clear hb2 hbz hbs
          generalize b ++ ⟨#[0]⟩ = c at *
          go_wp2
          go_roundw
          case rel => exact ⟨c, j + 1, rfl, HB2.out.1, by have := HS2.out; omega, hw⟩
          case measure => rw [strLen_eq, strLen_eq, HB2.out.2]; omega
        · have hb64 : b.size = 64 := by omega
          have HBL : Keep (b.data.toList = lastBlock s.data.toList) := ⟨by rw [HLB'.out j (by omega), HBB.out]⟩
          have hwe := hw.out
          subst hwe
          clear HBB hbs hj hw HLB' j hlt2 hx64 hlt hlt'
          rw [← HBL.out] at HF
          have hsw : IntKind.u64.wrap ((s.size : Nat) : Int) = ((s.size : Nat) : Int) := by rw [IntKind.wrap_u64]; omega
          have hb64' : ¬ (b.size : Int) < 64 := by omega
          have HB64 := Keep.mk hb64
          clear hb64
          obtain ⟨D, hD⟩ : ∃ D, D = mkS (digest s.data.toList) := ⟨_, rfl⟩
          have hDs : D.size = 32 := by rw [hD, size_mkS, digest_length]
          have hDd : D.data.toList = (final s.data.toList).flatMap bytes4 := by rw [hD, data_mkS]; rfl
          have HDD := Keep.mk hD
          have HDd := Keep.mk hDd
          have HDs := Keep.mk hDs
          clear hD hDd hDs
          generalize final s.data.toList = z2 at *
          go_upto_region 16 with (first
            | (with_reducible (show wpList _ _ _ (⟨some 49, _, _, _, _, _⟩ :: _) _ _); refine wpList_load_arr (o := ⟨some 49, _, _, _, _, _⟩) rfl 32 _ rfl H _ (wvs z) rfl HA.out.1 8 31 Try.underlying32 (by rw [wvs_length, hzl]; exact Try.info8) ?_)
            | (go_at_call 15; refine (compress_any z hzl b HB64.out s.size (by omega) true wo).mono ?_; rintro e w6 ⟨rfl, hb6⟩; rw [← HF.out]; have hA6 := Keep.mk (HA.out.1.below hb6 HA.out.1.lt); have hB6 := Keep.mk (HA.out.2.trans (hb6.mono HA.out.2.size)); clear hb6 HA)
            | (with_reducible (show wpList _ _ _ (⟨none, _, _, _, _, _⟩ :: _) _ _); refine wpList_store_arr (o := ⟨none, _, _, _, _, _⟩) rfl 32 _ _ rfl H _ (wvs z) (wvs z2) rfl rfl hA6.out (by rw [wvs_length, HFl]; exact Try.info8) (by rw [wvs_length, wvs_length, hzl, HFl]) (wvs_one _) ?_; intro w7 hA7 hg7; have H7 := Keep.mk (And.intro hA7 (hB6.out.grown hg7 (by have := hA6.out.lt; omega) (fun _ h => by cases h; exact HD))); clear hA7 hg7 hA6 hB6))
          have hcs : (cat [s]).length ≤ 1000000 := by simp [cat]; omega
          have hcq : cat [s] = s.data.toList := by simp [cat]
          have HCQ := Keep.mk hcq
          have HCS := Keep.mk hcs
          clear hcs hcq HF HBL HB64 hb64' hsw
          go_wp2_with fail
          refine (sum_any (l := [s]) (Strs.made w7 [s] 9 (show (1 : Nat) ≤ maxLen by decide)) (show (1 : Nat) ≤ 1000000 by decide) HCS.out).mono ?_
          rintro e w8 ⟨rfl, hb8⟩
          rw [HCQ.out, ← HDD.out]
          have b78 := ((Below.refl w7.heap.size w7).alloc (Nat.le_refl _) (.cells (strCells [s]).toArray 9))
          have b78' := b78.trans (hb8.mono b78.size)
          have H8 := Keep.mk (And.intro (H7.out.1.below b78' H7.out.1.lt) (H7.out.2.trans (b78'.mono H7.out.2.size)))
          have hDs := HDs.out
          clear b78 b78' hb8 H7 HDD HCQ HCS
          go_wp2_with fail
          clear hDs
          go_loopw [9] (fun i wi => ∃ j : Nat, j ≤ 32 ∧ i = .int .i64 j ∧ Arr wi H 32 (wvs z2) ∧ Below w.heap.size w wi) (fun i _ => 32 - (intOf i).toNat)
          case atStart => exact ⟨0, by omega, rfl, H8.out.1, H8.out.2⟩
          case round =>
            obtain ⟨j, hj, rfl, hA, hB⟩ := hrel
            clear H8 
            have HOB := Keep.mk (And.intro hA hB)
            clear hA hB
            by_cases hlt : j < 32
            · obtain ⟨q, hq⟩ : ∃ q, q = j / 4 := ⟨_, rfl⟩
              obtain ⟨r, hr⟩ : ∃ r, r = j % 4 := ⟨_, rfl⟩
              have hq8 : q < 8 := by omega
              have hr4 : r < 4 := by omega
              have hjD : j < D.size := by rw [HDs.out]; exact hlt
              have hget := flat_get z2 (q := q) (r := r) (by omega) hr4
              have hc : D[j]'hjD = UInt8.ofNat ((z2.getD q 0).toNat / 2 ^ (8 * r)) := by
                rw [← HDd.out, show 4 * q + r = j by omega, List.getElem?_eq_getElem (by simpa using hjD)] at hget
                have h3 : D.data[j]'(show j < D.data.size from hjD) = UInt8.ofNat ((z2.getD q 0).toNat / 2 ^ (8 * r)) := by simpa using hget
                exact h3
              have i0 : (0 : Int) ≤ j := by omega
              have i1 : (j : Int) < 32 := by omega
              have i2 : (j : Int) < (D.size : Int) := by omega
              have q1 : (j : Int) / 4 = (q : Int) := by omega
              have q2 : (j : Int) % 4 = (r : Int) := by omega
              have q3 : (0 : Int) ≤ q := by omega
              have q4 : (q : Int) < 8 := by omega
              have q5 : (0 : Int) ≤ 8 * (r : Int) := by omega
              have q6 : 8 * (r : Int) < 32 := by omega
              have c0 := HOB.out.1.word (i := q) (by omega)
              have hby : W32 (z2.getD q 0) / 2 ^ (8 * r) % 256 = ((UInt8.ofNat ((z2.getD q 0).toNat / 2 ^ (8 * r))).toNat : Int) := by
                rw [byte_of]; unfold W32; rw [Int.natCast_ediv, Int.natCast_pow]; rfl
              clear hq hr hget
              generalize z2.getD q 0 = x0 at *
              generalize (UInt8.ofNat (x0.toNat / 2 ^ (8 * r))) = c at *
              go_wp2_with fail
              go_quiet (fail)
              go_wp2
              go_roundw
              case rel => exact ⟨j + 1, by omega, by go_num, HOB.out.1.drewN _, below_drewN HOB.out.2 _⟩
              case measure => simp [intOf]; omega
            · have hj32 : j = 32 := by omega
              subst hj32
              go_wp2
              go_ret
              exact ⟨rfl, HOB.out.2⟩
theorem Blake2sIteration_walk : LawWalk 6 Try.f6 := by
  intro H enc W base args ds ps hval hA hsz
  rw [Try.params6] at hA hval hsz
  obtain ⟨v0, vs0, d0, ds0, p0, q0, hargs, rfl, rfl, h0, r0⟩ := trodAll_cons hA
  obtain ⟨rfl, rfl, rfl⟩ := trodAll_nil r0
  obtain rfl : args = #[v0] := by cases args; simp_all
  obtain ⟨s, rfl, rfl, rfl, ws⟩ := open_string Try.underlying9 (hval 0 9 v0 rfl rfl) h0
  exact blake2sIteration_any s (by simpa [maxLen] using ws) W
end Go.Proofs.Ytkklknfjakdpmaa
namespace Go.Proofs.Ytkklknfjakdpmaa
open Go.ChangeShapes Go.WideShapes Go.ChangeAt Go.RowKit
set_option maxRecDepth 100000 in
theorem Blake2sIteration_lifted (os : Os) (started : os.Started) (H : Type) (enc : TypeId × Value → H) :
    ReturnsInHanded {} Try.checked os 6 .any (Rows.blake2sIterationSpec.pre6 enc Try.prog Try.f6 Rows.blake2sIterationRow.domain false) (Rows.blake2sIterationSpec.post enc Try.prog Try.f6 false true false false) := by
  refine returnsInHanded_of_change_sized (C := Try.checked) own started (by kernel_rfl) Try.func6
    (ChangeSpec.witness6 (enc := enc) (C := Try.checked) false ⟨#[], #[.string ⟨#[]⟩], []⟩ 8 (by kernel_rfl) (by kernel_rfl) (by kernel_rfl) (by kernel_rfl)) ?_
  exact law_contract (by kernel_rfl) (by kernel_rfl) ⟨rfl, fun H ds h => by rw [Try.params6] at h; match ds, h with | [d0], _ => rfl⟩ Blake2sIteration_walk
theorem Blake2sIteration_over : Rows.blake2sIterationRow.holds Try.pinned (OpenSpec.ofChange Rows.blake2sIterationSpec) :=
  OpenClaim.holds_of_wide 6 Try.f6 rfl rfl rfl rfl rfl rfl rfl ⟨rfl, rfl, rfl, rfl, rfl⟩ rfl rfl rfl rfl rfl (by kernel_rfl) Try.func6 (by kernel_rfl)
    (of_decide_eq_true (by kernel_rfl)) (by unfold Func.isWrapper; first | (rw [if_pos (by decide +kernel)]; kernel_rfl) | (rw [if_neg (by decide +kernel)]; exact ⟨rfl, rfl⟩))
    (fun os started H enc _ => Blake2sIteration_lifted os started H enc)
theorem Blake2sIteration_proved : Rows.Blake2sIterationSaid := Blake2sIteration_over
end Go.Proofs.Ytkklknfjakdpmaa
