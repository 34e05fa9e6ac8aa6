/- steleref34.Join. No condition. -/
import Derived.Test.YtgoipkilpmjecaaSparseJoin
import Derived.Test.YtgoipkilpmjecaaBytes
namespace Go.Proofs.Ytgoipkilpmjecaa
open Go.RowKit Go.Shelf Go.Proofs.Ytgoipkilpmjecaa.Sparse

set_option maxHeartbeats 1000000 in
theorem refJoin_any (v : Value) (l : List Seg) (w : World) (hv : Segs w v l) :
    Calls Try.prog 21 #[v] w fun e w' => e = .returned (.tuple #[.string (mkS (joinL l).1), .int .i64 (joinL l).2]) ∧ Below w.heap.size w w' := by
  go_enter Try.func21, Try.ntmps21
  go_wp2_with fail
  refine (refSize_any v l w hv).mono ?_
  rintro e w1 ⟨rfl, hb1⟩
  have hv1 := hv.below hb1 (Nat.le_refl _)
  by_cases h0 : (sizeL l).2 = 0
  · have HJ := Keep.mk (joinL_eq h0)
    obtain ⟨f1, f2, f3⟩ := sizeL_ok h0
    have HF := Keep.mk f1
    have hz1 := hb1.size
    have HB1 := Keep.mk hb1
    obtain ⟨a, c, rfl, h1, h2, h3⟩ := hv1.parts
    have H3 := Keep.mk h3
    unfold maxLen at h2
    generalize hs1 : (sizeL l).1 = n1
    rw [h0]
    clear hs1 h0 f1 f2 hv hv1 h3 hb1
    go_wp2
    go_loopw [7, 6] (fun i x wr => ∃ k : Nat, k ≤ l.length ∧ i = .int .i64 k ∧ OwnBytes w1 wr x (expand (l.take k)) ∧ Below w1.heap.size w1 wr) (fun i _ _ => l.length - (intOf i).toNat)
    case atStart => exact ⟨0, Nat.zero_le _, rfl, OwnBytes.made (Nat.le_refl _), (Below.refl _ _).alloc (Nat.le_refl _) _⟩
    case round =>
      obtain ⟨k, hk, rfl, hO, hbr⟩ := hrel
      by_cases hlt : k < l.length
      · obtain ⟨⟨n, d⟩, hx⟩ : ∃ x, l[k]? = some x := ⟨_, List.getElem?_eq_getElem hlt⟩
        obtain ⟨b, o, rfl, hb, hc1, hc2⟩ := H3.out k _ hx
        have hc1' := (hbr.cell (p := ⟨b, o + k * 2, none⟩) hb).trans hc1
        have hc2' := (hbr.cell (p := ⟨b, o + k * 2 + 1, none⟩) hb).trans hc2
        have hle := expand_take_le l (k + 1)
        rw [expand_take hx, List.length_append, List.length_append, List.length_replicate] at hle
        have HE := Keep.mk (expand_take hx)
        have hfn := (HF.out _ (List.mem_of_getElem? hx)).1
        have HC1 := Keep.mk hc1
        dsimp only at hc1' hc2' hle hfn
        obtain ⟨S, hSd⟩ : ∃ S, S = mkS d := ⟨_, rfl⟩
        have hSz : S.size = d.length := by rw [hSd, size_mkS]
        have HSd : Keep (S.data.toList = d) := ⟨by rw [hSd, data_mkS]⟩
        rw [← hSd] at hc2'
        obtain ⟨m, rfl⟩ := Int.eq_ofNat_of_zero_le hfn
        rw [Int.toNat_natCast] at hle HE
        clear hc1 hc2 hx hSd hfn
        go_wp2_with (at_builtin; refine wpList_append_text (o := ⟨some 30, _, _, _, _, _⟩) rfl _ _ rfl rfl hO hbr rfl (by omega) ?_; intro x2 w2 hO2 hb2)
        rw [HSd.out] at hO2
        clear hO hbr hc1' hc2'
        go_loopw [8, 6] (fun i x wr => ∃ j : Nat, j ≤ m ∧ i = .int .i64 j ∧ OwnBytes w1 wr x (expand (l.take k) ++ d ++ List.replicate j 0) ∧ Below w1.heap.size w1 wr) (fun i _ _ => m - (intOf i).toNat)
        case atStart => exact ⟨0, Nat.zero_le _, rfl, by simpa using hO2, hb2⟩
        case round =>
          obtain ⟨j, hj, rfl, hO3, hb3⟩ := hrel
          have hc3 := (hb3.cell (p := ⟨b, o + k * 2, none⟩) hb).trans HC1.out
          by_cases hjm : j < m
          · go_wp2_with (at_builtin; refine wpList_append_byte (o := ⟨some 42, _, _, _, _, _⟩) rfl _ _ rfl rfl hO3 hb3 (c := 0) rfl rfl (by rw [List.length_append, List.length_append, List.length_replicate]; omega) ?_; intro x4 w4 hO4 hb4)
            go_roundw
            case rel => exact ⟨j + 1, by omega, by go_num, by rw [List.append_assoc _ _ [0], ← List.replicate_succ'] at hO4; exact hO4, hb4⟩
            case measure => simp [intOf]; omega
          · obtain rfl : j = m := by omega
            rw [← HE.out] at hO3
            go_wp2
            go_roundw
            case rel => exact ⟨k + 1, by omega, by go_num, hO3, hb3⟩
            case measure => simp [intOf]; omega
      · have ht : l.take k = l := List.take_of_length_le (by omega)
        rw [ht] at hO
        clear ht
        have hcv := hO.run
        go_wp2
        go_ret2
        exact ⟨by rw [HJ.out]; rfl, HB1.out.trans (hbr.mono (by omega))⟩
  · have hne : ((sizeL l).2 != 0) = true := by simp [h0]
    have HJ := Keep.mk (joinL_ne h0)
    clear h0
    go_wp2
    go_ret2
    exact ⟨by rw [HJ.out]; rfl, hb1⟩
end Go.Proofs.Ytgoipkilpmjecaa
