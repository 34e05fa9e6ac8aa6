/- sparse.Join and steleref34.Join: the text that segments stand for. No condition. -/
import Derived.Test.YtgoipkilpmjecaaSparseSize
import Derived.Test.YtgoipkilpmjecaaBuilder
namespace Go.Proofs.Ytgoipkilpmjecaa
open Go.RowKit Go.Shelf Go.Proofs.Ytgoipkilpmjecaa.Sparse

theorem expand_take {l : List Seg} {k : Nat} {x : Seg} (h : l[k]? = some x) : expand (l.take (k + 1)) = expand (l.take k) ++ x.2 ++ List.replicate x.1.toNat 0 := by
  rw [List.take_add_one, h, expand_append]; simp [expand]
theorem expand_take_le (l : List Seg) (k : Nat) : (expand (l.take k)).length ≤ (expand l).length := by
  conv => rhs; rw [← List.take_append_drop k l, expand_append, List.length_append]
  omega
theorem data_len' (s : ByteArray) : s.data.toList.length = s.size := by simp
theorem joinL_eq {l : List Seg} (h : (sizeL l).2 = 0) : joinL l = (expand l, 0) := if_pos h
theorem joinL_ne {l : List Seg} (h : (sizeL l).2 ≠ 0) : joinL l = ([], (sizeL l).2) := if_neg h

set_option maxHeartbeats 1000000 in
theorem segJoin_any (v : Value) (l : List Seg) (w : World) (hv : Segs w v l) :
    Calls Try.prog 17 #[v] w fun e w' => e = .returned (.tuple #[.string (mkS (joinL l).1), .int .i64 (joinL l).2]) ∧ Below w.heap.size w w' := by
  go_enter Try.func17, Try.ntmps17
  go_wp2_with fail
  refine (segSize_any v l w hv).mono ?_
  rintro e w1 ⟨rfl, hb1⟩
  have hv1 := hv.below hb1 (Nat.le_refl _)
  by_cases h0 : (sizeL l).2 = 0
  · have HJ := Keep.mk (joinL_eq h0)
    obtain ⟨f1, f2, f3⟩ := sizeL_ok h0
    have HF := Keep.mk f1
    have hz1 := hb1.size
    have HB1 := Keep.mk hb1
    obtain ⟨a, c, rfl, h1, h2, h3⟩ := hv1.parts
    have H3 := Keep.mk h3
    unfold maxLen at h2
    generalize hs1 : (sizeL l).1 = n1
    rw [h0]
    clear hs1 h0 f1 f2 hv hv1 h3 hb1
    go_wp2
    go_loopw [19] (fun i wr => ∃ k : Nat, k ≤ l.length ∧ i = .int .i64 k ∧ Holds w1.heap.size w1.heap.size (expand (l.take k)) wr ∧ Below w1.heap.size w1 wr ∧ w1.heap.size < wr.heap.size) (fun i _ => l.length - (intOf i).toNat)
    case atStart => exact ⟨0, Nat.zero_le _, rfl, builder_fresh w1, (Below.refl _ _).alloc (Nat.le_refl _) _, by simp⟩
    case round =>
      obtain ⟨k, hk, rfl, hH, hbr, hlt1⟩ := hrel
      by_cases hlt : k < l.length
      · obtain ⟨⟨n, d⟩, hx⟩ : ∃ x, l[k]? = some x := ⟨_, List.getElem?_eq_getElem hlt⟩
        obtain ⟨b, o, rfl, hb, hc1, hc2⟩ := H3.out k _ hx
        have hc1' := (hbr.cell (p := ⟨b, o + k * 2, none⟩) hb).trans hc1
        have hc2' := (hbr.cell (p := ⟨b, o + k * 2 + 1, none⟩) hb).trans hc2
        have hle := expand_take_le l (k + 1)
        rw [expand_take hx, List.length_append, List.length_append, List.length_replicate] at hle
        have HE := Keep.mk (expand_take hx)
        have hfn := (HF.out _ (List.mem_of_getElem? hx)).1
        dsimp only at hc1' hc2' hle hfn
        obtain ⟨S, hSd⟩ : ∃ S, S = mkS d := ⟨_, rfl⟩
        have hSz : S.size = d.length := by rw [hSd, size_mkS]
        have HSd : Keep (S.data.toList = d) := ⟨by rw [hSd, data_mkS]⟩
        rw [← hSd] at hc2'
        have hbs := hbr.size
        clear hc1 hc2 hx hSd
        go_wp2_with fail
        obtain ⟨wa, hwa⟩ : ∃ wa, wa = wr.alloc (.cells #[.int .i64 n, .string S] 45) := ⟨_, rfl⟩
        have hbox : wa.heap[wr.heap.size]? = some (.cells #[.int .i64 n, .string S] 45) := by rw [hwa]; exact World.alloc_heap_new wr _
        have hHa : Holds w1.heap.size w1.heap.size (expand (l.take k)) wa := by rw [hwa]; exact hH.alloc _
        have hba : Below w1.heap.size w1 wa := by rw [hwa]; exact hbr.alloc hbs _
        have hza : wr.heap.size < wa.heap.size := by rw [hwa]; simp
        rw [← hwa]
        clear hwa hH hbr hc1' hc2'
        refine (writeString_any w1.heap.size w1.heap.size _ S wa hHa (by omega) (by omega)).mono ?_
        rintro e w4 ⟨rfl, hH4, hb4, hk4⟩
        have hbox4 := hk4 _ _ hbox (by simp; omega) (by simp)
        have hc4 : w4.cell? ⟨wr.heap.size, 0, none⟩ = some (.int .i64 n) := by rw [World.cell?]; simp only [hbox4]; rfl
        rw [HSd.out] at hH4
        have hb14 : Below w1.heap.size w1 w4 := hba.trans hb4
        have hz4 := hb4.size
        clear hk4 hb4 hbox hbox4 hHa hba
        obtain ⟨m, rfl⟩ := Int.eq_ofNat_of_zero_le hfn
        rw [Int.toNat_natCast] at hle HE
        go_wp2_with fail
        refine (repeat_any ⟨#[0]⟩ (m : Int) w4 (by omega) (by rw [Int.toNat_natCast, show (⟨#[0]⟩ : ByteArray).size = 1 from rfl]; omega) (by omega)).mono ?_
        rintro e w5 ⟨rfl, hb5⟩
        have hz5 := hb5.size
        have hH5 := hH4.below hb5
        have hb15 := held_on hb5 hb14
        obtain ⟨r, hr⟩ : ∃ r, r = mkS (Lib.repeatL (⟨#[0]⟩ : ByteArray).data.toList ((m : Int)).toNat) := ⟨_, rfl⟩
        have hrd : r.data.toList = List.replicate m 0 := by rw [hr, data_mkS, Int.toNat_natCast]; exact repeatL_zero m
        have hrz : r.size = m := by rw [← data_len', hrd, List.length_replicate]
        have HRD := Keep.mk hrd
        rw [← hr]
        clear hr hrd hb5 hH4 hb14
        go_wp2_with fail
        refine (writeString_any w1.heap.size w1.heap.size _ r w5 hH5 (by rw [List.length_append]; omega) (by omega)).mono ?_
        rintro e w6 ⟨rfl, hH6, hb6, _⟩
        have hz6 := hb6.size
        rw [HRD.out, ← HE.out] at hH6
        have hb16 : Below w1.heap.size w1 w6 := hb15.trans hb6
        go_wp2
        go_roundw
        case rel => exact ⟨k + 1, by omega, by go_num, hH6, hb16, by omega⟩
        case measure => simp [intOf]; omega
      · have ht : l.take k = l := List.take_of_length_le (by omega)
        rw [ht] at hH
        clear ht
        go_wp2_with fail
        refine (Try.Builder_String_any w1.heap.size w1.heap.size _ wr hH (by omega)).mono ?_
        rintro e w7 ⟨rfl, hb7⟩
        go_wp2
        go_ret2
        refine ⟨by rw [HJ.out]; rfl, HB1.out.trans (Below.mono (hbr.trans hb7) (by omega))⟩
  · have hne : ((sizeL l).2 != 0) = true := by simp [h0]
    have HJ := Keep.mk (joinL_ne h0)
    clear h0
    go_wp2
    go_ret2
    exact ⟨by rw [HJ.out]; rfl, hb1⟩
end Go.Proofs.Ytgoipkilpmjecaa
