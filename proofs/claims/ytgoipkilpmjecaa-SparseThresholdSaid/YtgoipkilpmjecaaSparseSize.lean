/- sparse.Size and steleref34.Size count the bytes of segments. No condition. -/
import Derived.Test.YtgoipkilpmjecaaSparseHelp
namespace Go.Proofs.Ytgoipkilpmjecaa
open Go.RowKit Go.Shelf Go.Proofs.Ytgoipkilpmjecaa.Sparse

theorem sizeGo_drop {l : List Seg} {k : Nat} {x : Seg} (h : l[k]? = some x) (T : Int) :
    sizeGo T (l.drop k) = if x.1 < 0 then (0, 2) else if 0 < x.1 ∧ x.2 ≠ [] then (0, 1) else if 65536 - T < x.1 ∨ 65536 - T < (x.2.length : Int) then (0, 6) else sizeGo (T + (x.1 + x.2.length)) (l.drop (k + 1)) := by
  obtain ⟨hk, rfl⟩ := List.getElem?_eq_some_iff.1 h
  rw [List.drop_eq_getElem_cons hk, sizeGo]
theorem sizeGo_end {l : List Seg} {k : Nat} (h : l.length ≤ k) (T : Int) : sizeGo T (l.drop k) = (T, 0) := by
  rw [List.drop_of_length_le h]; rfl
theorem ret_pair {a b c d : Int} (h : (a, b) = (c, d)) : Ending.returned (.tuple #[.int .i64 a, .int .i64 b]) = .returned (.tuple #[.int .i64 c, .int .i64 d]) := by
  cases h; rfl

set_option maxHeartbeats 1000000 in
theorem segSize_any (v : Value) (l : List Seg) (w : World) (hv : Segs w v l) :
    Calls Try.prog 18 #[v] w fun e w' => e = .returned (.tuple #[.int .i64 (sizeL l).1, .int .i64 (sizeL l).2]) ∧ Below w.heap.size w w' := by
  obtain ⟨a, c, rfl, h1, h2, h3⟩ := hv.parts
  have H3 := Keep.mk h3
  unfold maxLen at h2
  clear h3 hv
  go_enter Try.func18, Try.ntmps18
  go_wp2
  go_loopw [9, 4] (fun i t wr => ∃ (k : Nat) (T : Int), k ≤ l.length ∧ i = .int .i64 k ∧ t = .int .i64 T ∧ 0 ≤ T ∧ T ≤ 65536 ∧ Keep (sizeL l = sizeGo T (l.drop k)) ∧ Below w.heap.size w wr) (fun i _ _ => l.length - (intOf i).toNat)
  case atStart => exact ⟨0, 0, Nat.zero_le _, rfl, rfl, Int.le_refl _, by decide, ⟨rfl⟩, Below.refl _ _⟩
  case round =>
    obtain ⟨k, T, hk, rfl, rfl, hT0, hT1, hS, hbr⟩ := hrel
    by_cases hlt : k < l.length
    · obtain ⟨⟨n, d⟩, hx⟩ : ∃ x, l[k]? = some x := ⟨_, List.getElem?_eq_getElem hlt⟩
      obtain ⟨b, o, rfl, hb, hc1, hc2⟩ := H3.out k _ hx
      have hc1' := (hbr.cell (p := ⟨b, o + k * 2, none⟩) hb).trans hc1
      have hc2' := (hbr.cell (p := ⟨b, o + k * 2 + 1, none⟩) hb).trans hc2
      have hst := sizeGo_drop hx T
      dsimp only at hc1' hc2' hst
      obtain ⟨S, hSd⟩ : ∃ S, S = mkS d := ⟨_, rfl⟩
      have hSz : S.size = d.length := by rw [hSd, size_mkS]
      have hSe : S.toList.isEmpty = decide (d = []) := by
        rw [hSd, Lib.toList_data, data_mkS]
        cases d <;> simp
      rw [← hSd] at hc2'
      have hbs := hbr.size
      rw [← hS.out] at hst
      have hfin : Below w.heap.size w (wr.alloc (.cells #[.int .i64 n, .string S] 45)) := hbr.alloc hbs _
      clear hc1 hc2 hx hSd hS
      by_cases n0 : n < 0
      · rw [if_pos n0] at hst
        have HS := Keep.mk hst
        clear hst hSe hSz
        go_wp2
        go_ret2
        exact ⟨by rw [HS.out]; rfl, hfin⟩
      · rw [if_neg n0] at hst
        by_cases n1 : 0 < n
        · by_cases hd : d = []
          · rw [decide_eq_true hd] at hSe
            rw [if_neg (fun h => h.2 hd)] at hst
            have hd0 : S.size = 0 := by rw [hSz, hd]; rfl
            clear hd
            have hsz0 : (S.size : Int) = (d.length : Int) := by omega
            rw [← hsz0] at hst
            have HN1 := Keep.mk n1
            clear hSz hsz0
            by_cases c1 : 65536 - T < n
            · rw [if_pos (.inl c1)] at hst
              have HS := Keep.mk hst
              clear hst
              go_wp2
              go_ret2
              exact ⟨by rw [HS.out]; rfl, hfin⟩
            · by_cases c2 : 65536 - T < (S.size : Int)
              · omega
              · rw [if_neg (fun h => h.elim c1 c2)] at hst
                have HS := Keep.mk hst
                clear hst
                go_wp2
                go_roundw
                case rel => exact ⟨k + 1, T + (n + S.size), by omega, by go_num, by go_num, by omega, by omega, HS, hfin⟩
                case measure => simp [intOf]; omega
          · rw [decide_eq_false hd] at hSe
            rw [if_pos ⟨n1, hd⟩] at hst
            have HS := Keep.mk hst
            clear hst hSz hd
            go_wp2
            go_ret2
            exact ⟨by rw [HS.out]; rfl, hfin⟩
        · rw [if_neg (fun h => n1 h.1)] at hst
          clear hSe
          have hsz0 : (S.size : Int) = (d.length : Int) := by omega
          rw [← hsz0] at hst
          have HN1 := Keep.mk n1
          clear hSz hsz0
          by_cases c1 : 65536 - T < n
          · omega
          · by_cases c2 : 65536 - T < (S.size : Int)
            · rw [if_pos (.inr c2)] at hst
              have HS := Keep.mk hst
              clear hst
              go_wp2
              go_ret2
              exact ⟨by rw [HS.out]; rfl, hfin⟩
            · rw [if_neg (fun h => h.elim c1 c2)] at hst
              have HS := Keep.mk hst
              clear hst
              go_wp2
              go_roundw
              case rel => exact ⟨k + 1, T + (n + S.size), by omega, by go_num, by go_num, by omega, by omega, HS, hfin⟩
              case measure => simp [intOf]; omega
    · have hst := sizeGo_end (l := l) (k := k) (by omega) T
      rw [← hS.out] at hst
      have HS := Keep.mk hst
      clear hst hS
      go_wp2
      go_ret2
      exact ⟨by rw [HS.out]; rfl, hbr⟩
set_option maxHeartbeats 1000000 in
theorem refSize_any (v : Value) (l : List Seg) (w : World) (hv : Segs w v l) :
    Calls Try.prog 22 #[v] w fun e w' => e = .returned (.tuple #[.int .i64 (sizeL l).1, .int .i64 (sizeL l).2]) ∧ Below w.heap.size w w' := by
  obtain ⟨a, c, rfl, h1, h2, h3⟩ := hv.parts
  have H3 := Keep.mk h3
  unfold maxLen at h2
  clear h3 hv
  go_enter Try.func22, Try.ntmps22
  go_wp2
  go_loopw [5, 4] (fun i t wr => ∃ (k : Nat) (T : Int), k ≤ l.length ∧ i = .int .i64 k ∧ t = .int .i64 T ∧ 0 ≤ T ∧ T ≤ 65536 ∧ Keep (sizeL l = sizeGo T (l.drop k)) ∧ Below w.heap.size w wr) (fun i _ _ => l.length - (intOf i).toNat)
  case atStart => exact ⟨0, 0, Nat.zero_le _, rfl, rfl, Int.le_refl _, by decide, ⟨rfl⟩, Below.refl _ _⟩
  case round =>
    obtain ⟨k, T, hk, rfl, rfl, hT0, hT1, hS, hbr⟩ := hrel
    by_cases hlt : k < l.length
    · obtain ⟨⟨n, d⟩, hx⟩ : ∃ x, l[k]? = some x := ⟨_, List.getElem?_eq_getElem hlt⟩
      obtain ⟨b, o, rfl, hb, hc1, hc2⟩ := H3.out k _ hx
      have hc1' := (hbr.cell (p := ⟨b, o + k * 2, none⟩) hb).trans hc1
      have hc2' := (hbr.cell (p := ⟨b, o + k * 2 + 1, none⟩) hb).trans hc2
      have hst := sizeGo_drop hx T
      dsimp only at hc1' hc2' hst
      obtain ⟨S, hSd⟩ : ∃ S, S = mkS d := ⟨_, rfl⟩
      have hSz : S.size = d.length := by rw [hSd, size_mkS]
      have hSe : S.toList.isEmpty = decide (d = []) := by
        rw [hSd, Lib.toList_data, data_mkS]
        cases d <;> simp
      rw [← hSd] at hc2'
      have hbs := hbr.size
      rw [← hS.out] at hst
      have hfin := hbr
      clear hc1 hc2 hx hSd hS
      by_cases n0 : n < 0
      · rw [if_pos n0] at hst
        have HS := Keep.mk hst
        clear hst hSe hSz
        go_wp2
        go_ret2
        exact ⟨by rw [HS.out]; rfl, hfin⟩
      · rw [if_neg n0] at hst
        by_cases n1 : 0 < n
        · by_cases hd : d = []
          · rw [decide_eq_true hd] at hSe
            rw [if_neg (fun h => h.2 hd)] at hst
            have hd0 : S.size = 0 := by rw [hSz, hd]; rfl
            clear hd
            have hsz0 : (S.size : Int) = (d.length : Int) := by omega
            rw [← hsz0] at hst
            have HN1 := Keep.mk n1
            clear hSz hsz0
            by_cases c1 : 65536 - T < n
            · rw [if_pos (.inl c1)] at hst
              have HS := Keep.mk hst
              clear hst
              go_wp2
              go_ret2
              exact ⟨by rw [HS.out]; rfl, hfin⟩
            · by_cases c2 : 65536 - T < (S.size : Int)
              · omega
              · rw [if_neg (fun h => h.elim c1 c2)] at hst
                have HS := Keep.mk hst
                clear hst
                go_wp2
                go_quiet (fail)
                go_wp2
                go_roundw
                case rel => exact ⟨k + 1, T + (n + S.size), by omega, by go_num, by go_num, by omega, by omega, HS, below_drewN hfin _⟩
                case measure => simp [intOf]; omega
          · rw [decide_eq_false hd] at hSe
            rw [if_pos ⟨n1, hd⟩] at hst
            have HS := Keep.mk hst
            clear hst hSz hd
            go_wp2
            go_ret2
            exact ⟨by rw [HS.out]; rfl, hfin⟩
        · rw [if_neg (fun h => n1 h.1)] at hst
          clear hSe
          have hsz0 : (S.size : Int) = (d.length : Int) := by omega
          rw [← hsz0] at hst
          have HN1 := Keep.mk n1
          clear hSz hsz0
          by_cases c1 : 65536 - T < n
          · omega
          · by_cases c2 : 65536 - T < (S.size : Int)
            · rw [if_pos (.inr c2)] at hst
              have HS := Keep.mk hst
              clear hst
              go_wp2
              go_ret2
              exact ⟨by rw [HS.out]; rfl, hfin⟩
            · rw [if_neg (fun h => h.elim c1 c2)] at hst
              have HS := Keep.mk hst
              clear hst
              go_wp2
              go_quiet (fail)
              go_wp2
              go_roundw
              case rel => exact ⟨k + 1, T + (n + S.size), by omega, by go_num, by go_num, by omega, by omega, HS, below_drewN hfin _⟩
              case measure => simp [intOf]; omega
    · have hst := sizeGo_end (l := l) (k := k) (by omega) T
      rw [← hS.out] at hst
      have HS := Keep.mk hst
      clear hst hS
      go_wp2
      go_ret2
      exact ⟨by rw [HS.out]; rfl, hbr⟩
end Go.Proofs.Ytgoipkilpmjecaa
