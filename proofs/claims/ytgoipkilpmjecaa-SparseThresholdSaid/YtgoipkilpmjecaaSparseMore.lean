/- Normalize and Read, of sparse and of the reference; great. Condition on great: each segment's data has at most 2^47 bytes. -/
import Derived.Test.YtgoipkilpmjecaaSparseRefJoin
namespace Go.Proofs.Ytgoipkilpmjecaa
open Go.RowKit Go.Shelf Go.Proofs.Ytgoipkilpmjecaa.Sparse

/-- The normal form, none behind an error. -/
def normL (l : List Seg) : List Seg := if (joinL l).2 = 0 then segs (joinL l).1 else []
/-- A range that is read, and the error. -/
def readL (l : List Seg) (a n : Int) : List UInt8 × Int :=
  if (joinL l).2 ≠ 0 then ([], (joinL l).2) else if a < 0 ∨ n < 0 ∨ ((joinL l).1.length : Int) < a ∨ ((joinL l).1.length : Int) - a < n then ([], 2) else (((joinL l).1.drop a.toNat).take n.toNat, 0)
theorem joinL_len (l : List Seg) : (joinL l).1.length ≤ 65536 := by
  unfold joinL
  split
  · rename_i h; exact (sizeL_ok h).2.2
  · simp

theorem normalize_any (v : Value) (l : List Seg) (w : World) (hv : Segs w v l) :
    Calls Try.prog 19 #[v] w fun e w' => ∃ u, e = .returned (.tuple #[u, .int .i64 (joinL l).2]) ∧ Segs w' u (normL l) ∧ Below w.heap.size w w' := by
  have hlen := joinL_len l
  go_enter Try.func19, Try.ntmps19
  go_wp2_with fail
  refine (segJoin_any v l w hv).mono ?_
  rintro e w1 ⟨rfl, hb1⟩
  obtain ⟨s, hs⟩ : ∃ s, s = mkS (joinL l).1 := ⟨_, rfl⟩
  have hsz : s.size ≤ 65536 := by rw [hs, size_mkS]; exact hlen
  have HS : Keep (s.data.toList = (joinL l).1) := ⟨by rw [hs, data_mkS]⟩
  rw [← hs]
  obtain ⟨k, hk⟩ : ∃ k, k = (joinL l).2 := ⟨_, rfl⟩
  have HK := Keep.mk hk
  rw [← hk]
  clear hs hk hlen hv
  by_cases h0 : k = 0
  · have H0 := Keep.mk h0
    have hne : (k != 0) = false := by simp [h0]
    clear h0
    go_wp2_with fail
    refine (segs_strs s w1 (by omega)).mono ?_
    rintro e w2 ⟨u, rfl, hS, hb2⟩
    go_wp2
    go_ret2
    refine ⟨u, by rw [← HK.out, H0.out]; rfl, ?_, held_on hb2 hb1⟩
    rw [HS.out] at hS
    unfold normL
    rw [if_pos (by rw [← HK.out, H0.out])]
    exact hS
  · have H0 := Keep.mk h0
    have hne : (k != 0) = true := by simp [h0]
    clear h0
    go_wp2
    go_ret2
    refine ⟨_, by rw [← HK.out]; rfl, ?_, hb1⟩
    unfold normL
    rw [if_neg (by rw [← HK.out]; exact H0.out)]
    exact ⟨none, 0, rfl, Nat.le_refl _, by decide, .inl rfl⟩

theorem refNormalize_any (v : Value) (l : List Seg) (w : World) (hv : Segs w v l) :
    Calls Try.prog 23 #[v] w fun e w' => ∃ u, e = .returned (.tuple #[u, .int .i64 (joinL l).2]) ∧ Segs w' u (normL l) ∧ Below w.heap.size w w' := by
  have hlen := joinL_len l
  go_enter Try.func23, Try.ntmps23
  go_wp2_with fail
  refine (refJoin_any v l w hv).mono ?_
  rintro e w1 ⟨rfl, hb1⟩
  obtain ⟨s, hs⟩ : ∃ s, s = mkS (joinL l).1 := ⟨_, rfl⟩
  have hsz : s.size ≤ 65536 := by rw [hs, size_mkS]; exact hlen
  have HS : Keep (s.data.toList = (joinL l).1) := ⟨by rw [hs, data_mkS]⟩
  rw [← hs]
  obtain ⟨k, hk⟩ : ∃ k, k = (joinL l).2 := ⟨_, rfl⟩
  have HK := Keep.mk hk
  rw [← hk]
  clear hs hk hlen hv
  by_cases h0 : k = 0
  · have H0 := Keep.mk h0
    have hne : (k != 0) = false := by simp [h0]
    clear h0
    go_wp2_with fail
    refine (refSegs_strs s w1 (by omega)).mono ?_
    rintro e w2 ⟨u, rfl, hS, hb2⟩
    go_wp2
    go_ret2
    refine ⟨u, by rw [← HK.out, H0.out]; rfl, ?_, held_on hb2 hb1⟩
    rw [HS.out] at hS
    unfold normL
    rw [if_pos (by rw [← HK.out, H0.out])]
    exact hS
  · have H0 := Keep.mk h0
    have hne : (k != 0) = true := by simp [h0]
    clear h0
    go_wp2
    go_ret2
    refine ⟨_, by rw [← HK.out]; rfl, ?_, hb1.alloc hb1.size _⟩
    unfold normL
    rw [if_neg (by rw [← HK.out]; exact H0.out)]
    exact ⟨_, 0, rfl, Nat.le_refl _, by decide, .inl rfl⟩

set_option maxHeartbeats 1000000 in
theorem read_any (v : Value) (l : List Seg) (a n : Int) (w : World) (hv : Segs w v l) :
    Calls Try.prog 20 #[v, .int .i64 a, .int .i64 n] w fun e w' => e = .returned (.tuple #[.string (mkS (readL l a n).1), .int .i64 (readL l a n).2]) ∧ Below w.heap.size w w' := by
  have hlen := joinL_len l
  go_enter Try.func20, Try.ntmps20
  go_wp2_with fail
  refine (segJoin_any v l w hv).mono ?_
  rintro e w1 ⟨rfl, hb1⟩
  have HR : Keep (readL l a n = if (joinL l).2 ≠ 0 then ([], (joinL l).2) else if a < 0 ∨ n < 0 ∨ ((joinL l).1.length : Int) < a ∨ ((joinL l).1.length : Int) - a < n then ([], 2) else (((joinL l).1.drop a.toNat).take n.toNat, 0)) := ⟨rfl⟩
  obtain ⟨s, hs⟩ : ∃ s, s = mkS (joinL l).1 := ⟨_, rfl⟩
  have hsz : s.size = (joinL l).1.length := by rw [hs, size_mkS]
  have hsd : s.data.toList = (joinL l).1 := by rw [hs, data_mkS]
  rw [← hsz] at HR hlen
  rw [← hsd] at HR
  rw [← hs]
  obtain ⟨k, hk⟩ : ∃ k, k = (joinL l).2 := ⟨_, rfl⟩
  rw [← hk] at HR ⊢
  clear hs hk hsz hsd hv
  by_cases h0 : k = 0
  · subst h0
    by_cases c1 : a < 0
    · have HQ : Keep (readL l a n = ([], 2)) := ⟨by rw [HR.out, if_neg (by simp), if_pos (.inl c1)]⟩
      clear HR
      go_wp2
      go_ret2
      exact ⟨by rw [HQ.out]; rfl, hb1⟩
    · by_cases c2 : n < 0
      · have HQ : Keep (readL l a n = ([], 2)) := ⟨by rw [HR.out, if_neg (by simp), if_pos (.inr (.inl c2))]⟩
        clear HR
        go_wp2
        go_ret2
        exact ⟨by rw [HQ.out]; rfl, hb1⟩
      · by_cases c3 : (s.size : Int) < a
        · have HQ : Keep (readL l a n = ([], 2)) := ⟨by rw [HR.out, if_neg (by simp), if_pos (.inr (.inr (.inl c3)))]⟩
          clear HR
          go_wp2
          go_ret2
          exact ⟨by rw [HQ.out]; rfl, hb1⟩
        · by_cases c4 : (s.size : Int) - a < n
          · have HQ : Keep (readL l a n = ([], 2)) := ⟨by rw [HR.out, if_neg (by simp), if_pos (.inr (.inr (.inr c4)))]⟩
            clear HR
            go_wp2
            go_ret2
            exact ⟨by rw [HQ.out]; rfl, hb1⟩
          · have HQ : Keep (readL l a n = ((s.data.toList.drop a.toNat).take n.toNat, 0)) := ⟨by rw [HR.out, if_neg (by simp), if_neg (by omega)]⟩
            clear HR
            obtain ⟨x, rfl⟩ := Int.eq_ofNat_of_zero_le (show 0 ≤ a by omega)
            obtain ⟨y, rfl⟩ := Int.eq_ofNat_of_zero_le (show 0 ≤ n by omega)
            have hxy : (x : Int) + (y : Int) ≤ (s.size : Int) := by omega
            have hxy2 : (x : Int) ≤ (x : Int) + (y : Int) := by omega
            go_wp2
            go_ret2
            refine ⟨?_, hb1⟩
            rw [HQ.out]
            show Ending.returned (.tuple #[.string (s.extract x (x + y)), .int .i64 0]) = _
            rw [extract_mid, Nat.add_sub_cancel_left]
            rfl
  · have H0 := Keep.mk h0
    have hne : (k != 0) = true := by simp [h0]
    have HQ : Keep (readL l a n = ([], k)) := ⟨by rw [HR.out, if_pos h0]⟩
    clear HR h0
    go_wp2
    go_ret2
    exact ⟨by rw [HQ.out]; rfl, hb1⟩
set_option maxHeartbeats 1000000 in
theorem refRead_any (v : Value) (l : List Seg) (a n : Int) (w : World) (hv : Segs w v l) :
    Calls Try.prog 24 #[v, .int .i64 a, .int .i64 n] w fun e w' => e = .returned (.tuple #[.string (mkS (readL l a n).1), .int .i64 (readL l a n).2]) ∧ Below w.heap.size w w' := by
  have hlen := joinL_len l
  go_enter Try.func24, Try.ntmps24
  go_wp2_with fail
  refine (refJoin_any v l w hv).mono ?_
  rintro e w1 ⟨rfl, hb1⟩
  have HR : Keep (readL l a n = if (joinL l).2 ≠ 0 then ([], (joinL l).2) else if a < 0 ∨ n < 0 ∨ ((joinL l).1.length : Int) < a ∨ ((joinL l).1.length : Int) - a < n then ([], 2) else (((joinL l).1.drop a.toNat).take n.toNat, 0)) := ⟨rfl⟩
  obtain ⟨s, hs⟩ : ∃ s, s = mkS (joinL l).1 := ⟨_, rfl⟩
  have hsz : s.size = (joinL l).1.length := by rw [hs, size_mkS]
  have hsd : s.data.toList = (joinL l).1 := by rw [hs, data_mkS]
  rw [← hsz] at HR hlen
  rw [← hsd] at HR
  rw [← hs]
  obtain ⟨k, hk⟩ : ∃ k, k = (joinL l).2 := ⟨_, rfl⟩
  rw [← hk] at HR ⊢
  clear hs hk hsz hsd hv
  by_cases h0 : k = 0
  · subst h0
    by_cases c1 : a < 0
    · have HQ : Keep (readL l a n = ([], 2)) := ⟨by rw [HR.out, if_neg (by simp), if_pos (.inl c1)]⟩
      clear HR
      go_wp2
      go_ret2
      exact ⟨by rw [HQ.out]; rfl, hb1⟩
    · by_cases c2 : n < 0
      · have HQ : Keep (readL l a n = ([], 2)) := ⟨by rw [HR.out, if_neg (by simp), if_pos (.inr (.inl c2))]⟩
        clear HR
        go_wp2
        go_ret2
        exact ⟨by rw [HQ.out]; rfl, hb1⟩
      · by_cases c3 : (s.size : Int) < a
        · have HQ : Keep (readL l a n = ([], 2)) := ⟨by rw [HR.out, if_neg (by simp), if_pos (.inr (.inr (.inl c3)))]⟩
          clear HR
          go_wp2
          go_ret2
          exact ⟨by rw [HQ.out]; rfl, hb1⟩
        · by_cases c4 : (s.size : Int) - a < n
          · have HQ : Keep (readL l a n = ([], 2)) := ⟨by rw [HR.out, if_neg (by simp), if_pos (.inr (.inr (.inr c4)))]⟩
            clear HR
            go_wp2
            go_ret2
            exact ⟨by rw [HQ.out]; rfl, hb1⟩
          · have HQ : Keep (readL l a n = ((s.data.toList.drop a.toNat).take n.toNat, 0)) := ⟨by rw [HR.out, if_neg (by simp), if_neg (by omega)]⟩
            clear HR
            obtain ⟨x, rfl⟩ := Int.eq_ofNat_of_zero_le (show 0 ≤ a by omega)
            obtain ⟨y, rfl⟩ := Int.eq_ofNat_of_zero_le (show 0 ≤ n by omega)
            have hxy : (x : Int) + (y : Int) ≤ (s.size : Int) := by omega
            have hxy2 : (x : Int) ≤ (x : Int) + (y : Int) := by omega
            go_wp2
            go_ret2
            refine ⟨?_, hb1⟩
            rw [HQ.out]
            show Ending.returned (.tuple #[.string (s.extract x (x + y)), .int .i64 0]) = _
            rw [extract_mid, Nat.add_sub_cancel_left]
            rfl
  · have H0 := Keep.mk h0
    have hne : (k != 0) = true := by simp [h0]
    have HQ : Keep (readL l a n = ([], k)) := ⟨by rw [HR.out, if_pos h0]⟩
    clear HR h0
    go_wp2
    go_ret2
    exact ⟨by rw [HQ.out]; rfl, hb1⟩

set_option maxHeartbeats 1000000 in
theorem great_any (v : Value) (l : List Seg) (w : World) (hv : Segs w v l) (hd : ∀ s ∈ l, s.2.length ≤ reachBytes) :
    Calls Try.prog 16 #[v] w fun e w' => ∃ g, e = .returned (.bool g) ∧ (g = false → l.length ≤ 60) ∧ Below w.heap.size w w' := by
  obtain ⟨a, c, rfl, h1, h2, h3⟩ := hv.parts
  have H3 := Keep.mk h3
  have HD := Keep.mk hd
  unfold maxLen at h2
  clear h3 hv hd
  go_enter Try.func16, Try.ntmps16
  go_wp2
  go_loopw [8, 3] (fun i t wr => ∃ (k T : Nat), k ≤ l.length ∧ i = .int .i64 k ∧ t = .int .i64 T ∧ T ≤ 2000 ∧ Below w.heap.size w wr) (fun i _ _ => l.length - (intOf i).toNat)
  case atStart => exact ⟨0, 0, Nat.zero_le _, rfl, rfl, by decide, Below.refl _ _⟩
  case round =>
    obtain ⟨k, T, hk, rfl, rfl, hT, hbr⟩ := hrel
    by_cases hlt : k < l.length
    · obtain ⟨⟨n, d⟩, hx⟩ : ∃ x, l[k]? = some x := ⟨_, List.getElem?_eq_getElem hlt⟩
      obtain ⟨b, o, rfl, hb, hc1, hc2⟩ := H3.out k _ hx
      have hc1' := (hbr.cell (p := ⟨b, o + k * 2, none⟩) hb).trans hc1
      have hc2' := (hbr.cell (p := ⟨b, o + k * 2 + 1, none⟩) hb).trans hc2
      have hdl := HD.out _ (List.mem_of_getElem? hx)
      unfold reachBytes at hdl
      dsimp only at hc1' hc2' hdl
      obtain ⟨S, hSd⟩ : ∃ S, S = mkS d := ⟨_, rfl⟩
      have hSz : S.size = d.length := by rw [hSd, size_mkS]
      rw [← hSd] at hc2'
      have hS2 : S.size ≤ 0x7ffffffff000 := by omega
      have hbs := hbr.size
      have hfin : Below w.heap.size w (wr.alloc (.cells #[.int .i64 n, .string S] 45)) := hbr.alloc hbs _
      clear hc1 hc2 hx hSd hSz hdl
      by_cases hbig : 2000 < T + S.size
      · have hbig' : (2000 : Int) < (T : Int) + (S.size : Int) := by omega
        go_wp2
        go_ret
        exact ⟨true, rfl, fun h => (by cases h), hfin⟩
      · have hbig' : ¬ (2000 : Int) < (T : Int) + (S.size : Int) := by omega
        go_wp2
        go_roundw
        case rel => exact ⟨k + 1, T + S.size, by omega, by go_num, by go_num, by omega, hfin⟩
        case measure => simp [intOf]; omega
    · go_wp2
      go_ret
      refine ⟨_, rfl, fun h => ?_, hbr⟩
      simp at h
      omega
end Go.Proofs.Ytgoipkilpmjecaa
