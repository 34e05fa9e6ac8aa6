/- loader.symbol, loader.Input. Condition: bounds on lengths. -/
import Derived.Test.YtojgopbaiflfgaaGreatDoorTpSync
import Derived.Test.YtojgopbaiflfgaaGreatDoorTpSplit
import Derived.Test.YtojgopbaiflfgaaGreatDoorTpMachPush
namespace Go.Proofs.YtojgopbaiflfgaaGreatDoor
set_option maxRecDepth 100000
open Go.RowKit Go.Shelf Go.Proofs.YtojgopbaiflfgaaGreatDoor.B2

def symW (c : UInt8) : W := if c.toNat = 48 then 0#32 else if c.toNat = 49 then 1#32 else 2#32
def pieceIn (p : ByteArray) : List W := if isPlainB p 0 = true then [] else p.data.toList.map symW ++ [3#32]
def inputL (arch : W) (ps : List ByteArray) : List W := arch :: ps.flatMap pieceIn
theorem symbol_any (c : UInt8) (w : World) : Calls Tryz.prog 58 #[.int .u8 (c.toNat : Int)] w fun e w' => e = .returned (.int .u32 (W32 (symW c))) ∧ w' = w := by
  by_cases h0 : c.toNat = 48
  · have hs : symW c = 0#32 := by unfold symW; rw [if_pos h0]
    rw [hs, h0, show W32 0#32 = 0 from rfl]
    clear hs h0
    go_enter Tryz.func58, Tryz.ntmps58
    go_wp2_with fail
    go_ret
    exact ⟨rfl, rfl⟩
  · by_cases h1 : c.toNat = 49
    · have hs : symW c = 1#32 := by unfold symW; rw [if_neg h0, if_pos h1]
      rw [hs, h1, show W32 1#32 = 1 from rfl]
      clear hs h0 h1
      go_enter Tryz.func58, Tryz.ntmps58
      go_wp2_with fail
      go_ret
      exact ⟨rfl, rfl⟩
    · have hs : symW c = 2#32 := by unfold symW; rw [if_neg h0, if_neg h1]
      rw [hs, show W32 2#32 = 2 from rfl]
      have f0 : ¬ (c.toNat : Int) = 48 := by omega
      have f1 : ¬ (c.toNat : Int) = 49 := by omega
      clear hs h0 h1
      go_enter Tryz.func58, Tryz.ntmps58
      go_wp2_with fail
      go_ret
      exact ⟨rfl, rfl⟩
theorem inputL_step (arch : W) (l : List ByteArray) (k : Nat) (hk : k < l.length) : inputL arch (l.take (k + 1)) = inputL arch (l.take k) ++ pieceIn l[k] := by
  unfold inputL
  rw [List.take_succ_eq_append_getElem hk, List.flatMap_append]
  simp
theorem wvs_append (a b : List W) : wvs (a ++ b) = wvs a ++ wvs b := by simp [wvs]
theorem symTo_step (p : ByteArray) (j : Nat) (hj : j < p.size) : (p.data.toList.take (j + 1)).map symW = (p.data.toList.take j).map symW ++ [symW p[j]] := by
  rw [List.take_succ_eq_append_getElem (by simpa using hj), List.map_append]
  rfl
set_option maxHeartbeats 8000000 in
theorem input_any {w : World} {v : Value} (l : List ByteArray) (arch : W) (hv : Strs w v l) (hl : l.length ≤ 1000) (hp : ∀ p ∈ l, p.size ≤ 4000) :
    Calls Tryz.prog 34 #[v, .int .u32 (W32 arch)] w fun e w' => ∃ v' n, e = .returned v' ∧ w'.ownsRow w.heap.size 29 1 v' n (wvs (inputL arch l)) ∧ Below w.heap.size w w' := by
  obtain ⟨i0, hi, hz0, hz1, hz2⟩ := info_parts Tryz.infoW
  obtain ⟨a, cap, rfl, h1, h2, h3⟩ := hv
  have H3 := Keep.mk h3
  have HP := Keep.mk hp
  have HO1 : Keep ((w.alloc (.cells #[.int .u32 (W32 arch)] 29)).ownsRow w.heap.size 29 1 (.slice (some ⟨w.heap.size, 0, none⟩) 1 1) 1 (wvs [arch])) := ⟨World.ownsRow_lit w #[.int .u32 (W32 arch)] 1 (Nat.le_refl _) (by decide) rfl⟩
  have HB1 : Keep (Below w.heap.size w (w.alloc (.cells #[.int .u32 (W32 arch)] 29))) := ⟨(Below.refl _ _).alloc (Nat.le_refl _) _⟩
  clear h3 hp
  go_enter Tryz.func34, Tryz.ntmps34
  go_wp2_with fail
  go_loopw [13, 5, 7, 8] (fun i v _ _ wr => ∃ k n : Nat, i = .int .i64 k ∧ k ≤ l.length ∧ n ≤ 1 + 4001 * k ∧ Keep (wr.ownsRow w.heap.size 29 1 v n (wvs (inputL arch (l.take k)))) ∧ Keep (Below w.heap.size w wr)) (fun i _ _ _ _ => l.length - (intOf i).toNat)
  case atStart => exact ⟨0, 1, rfl, Nat.zero_le _, by omega, HO1, HB1⟩
  case round =>
    obtain ⟨k, n, rfl, hk, hn, HO, HB⟩ := hrel
    by_cases hlt : k < l.length
    · have k0 : (k : Int) < l.length := by omega
      obtain ⟨s, hs⟩ : ∃ s, s = l[k] := ⟨_, rfl⟩
      have hks : l[k]? = some s := by rw [hs]; exact List.getElem?_eq_getElem hlt
      have hsz : s.size ≤ 4000 := HP.out s (by rw [hs]; exact List.getElem_mem hlt)
      have HST : Keep (inputL arch (l.take (k + 1)) = inputL arch (l.take k) ++ pieceIn s) := ⟨by rw [hs]; exact inputL_step arch l k hlt⟩
      obtain ⟨b, o, rfl, hb, hc⟩ : ∃ b o, a = some ⟨b, o, none⟩ ∧ b < w.heap.size ∧ w.cell? ⟨b, o + k, none⟩ = some (.string s) := by
        rcases H3.out with h | ⟨b, o, h1, h2, h3⟩
        · rw [h] at hlt; simp at hlt
        · exact ⟨b, o, h1, h2, h3 k s hks⟩
      have c0 := (HB.out.cell (p := ⟨b, o + k, none⟩) hb).trans hc
      have cl : b < wr.heap.size := Nat.lt_of_lt_of_le hb HB.out.size
      have HI := Keep.mk (fun w => isPlain_any s 0 (by unfold maxLen; omega) (by omega) w)
      obtain ⟨q, hq⟩ : ∃ q, isPlainB s 0 = q := ⟨_, rfl⟩
      rw [hq] at HI
      have HQ := Keep.mk hq
      clear hs hks hc hq
      go_wp2_with fail
      refine (HI.out _).mono ?_
      rintro _ w2 ⟨rfl, rfl⟩
      cases q with
      | true =>
        go_wp2_with fail
        go_roundw
        case rel =>
          refine ⟨k + 1, n, by push_cast; rfl, by omega, by omega, ⟨?_⟩, HB⟩
          rw [HST.out, pieceIn, if_pos HQ.out, List.append_nil]
          exact HO.out
        case measure => simp only [intOf]; omega
      | false =>
        clear c0 cl HI H3 HO1 HB1
        go_wp2_with fail
        go_loopw [21, 5, 8] (fun i v _ wr => ∃ j m : Nat, i = .int .i64 j ∧ j ≤ s.size ∧ m ≤ n + j ∧ Keep (wr.ownsRow w.heap.size 29 1 v m (wvs (inputL arch (l.take k) ++ (s.data.toList.take j).map symW))) ∧ Keep (Below w.heap.size w wr)) (fun i _ _ _ => s.size - (intOf i).toNat)
        case atStart => exact ⟨0, n, rfl, Nat.zero_le _, by omega, ⟨by rw [List.take_zero, List.map_nil, List.append_nil]; exact HO.out⟩, HB⟩
        case round =>
          obtain ⟨j, m, rfl, hj, hm, HOj, HBj⟩ := hrel
          by_cases hjs : j < s.size
          · have j0 : (j : Int) < s.size := by omega
            have hs1 : s.size ≤ 2^63-1 := by omega
            have HS := Keep.mk (fun w => symbol_any s[j] w)
            have HN := HBj.out.size
            obtain ⟨g, gc, rfl⟩ := ownsRow_slice HOj.out
            go_wp2_with fail
            refine (HS.out _).mono ?_
            rintro _ w3 ⟨rfl, rfl⟩
            obtain ⟨y, hy⟩ : ∃ y, y = symW s[j] := ⟨_, rfl⟩
            have HY : Keep (wvs (inputL arch (l.take k) ++ (s.data.toList.take (j + 1)).map symW) = wvs (inputL arch (l.take k) ++ (s.data.toList.take j).map symW) ++ [.int .u32 (W32 y)]) := ⟨by rw [symTo_step s j hjs, ← List.append_assoc, wvs_append, hy]; rfl⟩
            rw [← hy]
            generalize wvs (inputL arch (l.take k) ++ (s.data.toList.take j).map symW) = xs at *
            generalize s[j] = sj at *
            clear HS hy
            go_wp2_with (at_builtin; go_must (refine wpList_append_slc rfl _ _ 44 rfl w.heap.size 29 i0 (.int .u32 0) 1 4 Tryz.underlying44 hi hz0 hz1 hz2 rfl (by decide) _ m xs rfl (World.ownsRow.alloc HOj.out _) _ 1 [.int .u32 (W32 y)] rfl (slc_made (t := 29) [.int .u32 (W32 y)] (by decide) rfl) (by simp [Value.oneCell']) (by unfold maxLen; omega) (by omega) (by simp; omega) ?_); intro v9 w9 hown9 hg9 hv9; have H9 := Keep.mk (And.intro hown9 (below_append (HBj.out.alloc HN _) (by simp; omega) (World.ownsRow.alloc HOj.out _) (Nat.le_refl _) hg9)); clear hown9 hg9 hv9)
            go_roundw
            case rel => exact ⟨j + 1, m + 1, by push_cast; rfl, by omega, by omega, ⟨by rw [HY.out]; exact H9.out.1⟩, ⟨H9.out.2⟩⟩
            case measure => simp only [intOf]; omega
          · obtain rfl : j = s.size := by omega
            have HN := HBj.out.size
            obtain ⟨g, gc, rfl⟩ := ownsRow_slice HOj.out
            have HTK : Keep (wvs (inputL arch (l.take (k + 1))) = wvs (inputL arch (l.take k) ++ (s.data.toList.take s.size).map symW) ++ [.int .u32 3]) := ⟨by
              rw [HST.out, pieceIn, if_neg (by rw [HQ.out]; decide), List.take_of_length_le (l := s.data.toList) (by show s.data.toList.length ≤ s.data.size; simp), ← List.append_assoc, wvs_append]; rfl⟩
            generalize wvs (inputL arch (l.take k) ++ (s.data.toList.take s.size).map symW) = xs at *
            go_wp2_with (at_builtin; go_must (refine wpList_append_slc rfl _ _ 44 rfl w.heap.size 29 i0 (.int .u32 0) 1 4 Tryz.underlying44 hi hz0 hz1 hz2 rfl (by decide) _ m xs rfl (World.ownsRow.alloc HOj.out _) _ 1 [.int .u32 3] rfl (slc_made (t := 29) [.int .u32 3] (by decide) rfl) (by simp [Value.oneCell']) (by unfold maxLen; omega) (by omega) (by simp; omega) ?_); intro v9 w9 hown9 hg9 hv9; have H9 := Keep.mk (And.intro hown9 (below_append (HBj.out.alloc HN _) (by simp; omega) (World.ownsRow.alloc HOj.out _) (Nat.le_refl _) hg9)); clear hown9 hg9 hv9)
            go_roundw
            case rel => exact ⟨k + 1, m + 1, by push_cast; rfl, by omega, by omega, ⟨by rw [HTK.out]; exact H9.out.1⟩, ⟨H9.out.2⟩⟩
            case measure => simp only [intOf]; omega
    · obtain rfl : k = l.length := by omega
      go_wp2_with fail
      go_ret
      rw [List.take_length] at HO
      exact ⟨_, _, rfl, HO.out, HB.out⟩
end Go.Proofs.YtojgopbaiflfgaaGreatDoor
