/- plainframe.Split of a short program text. Condition: at most 900 signs. bootstrap.groups over pieces, four at a time. Condition: at most 1000 pieces. -/
import Derived.Test.YtojgopbaiflfgaaGreatDoorTpDecode
import Derived.Test.YtojgopbaiflfgaaGreatDoorRepeat
namespace Go.Proofs.YtojgopbaiflfgaaGreatDoor
set_option maxRecDepth 100000
open Go.RowKit Go.Shelf

theorem Tryz.infoPlain : (Tryz.prog.info? 53).map (fun i => (i.zero, i.size, i.bytes)) = some (some (.agg #[.int .u32 0, .int .i64 0, .int .i64 0, .string ⟨#[]⟩]), 4, 40) := by kernel_rfl
theorem Slc.made {w : World} {t : TypeId} {size n : Nat} (xs : List Value) (hn : n ≤ maxLen) (hl : xs.length = n * size) : Slc (w.alloc (.cells xs.toArray t)) size (.slice (some ⟨w.heap.size, 0, none⟩) n n) n xs := by
  refine ⟨_, _, rfl, Nat.le_refl _, hn, hl, .inr ⟨w.heap.size, 0, rfl, by simp, fun j u hu => ?_⟩⟩
  have := heap_alloc_new w (.cells xs.toArray t)
  simp only [World.cell?, this, Nat.zero_add]
  simpa using hu
/-- How many pieces a text of n signs has. -/
def totC (n : Nat) : Nat := (n + 63) / 64
/-- The text, filled up. -/
def padT (c : ByteArray) : ByteArray := c ++ mkS (List.replicate (64 * totC c.size - c.size) 32)
def pieceT (T : ByteArray) (i : Nat) : ByteArray := T.extract (i * 64) ((i + 1) * 64)
def rowP (arch tot : Nat) (T : ByteArray) (i : Nat) : List Value := [.int .u32 arch, .int .i64 i, .int .i64 tot, .string (pieceT T i)]
def rowsP (arch tot : Nat) (T : ByteArray) (n : Nat) : List Value := (List.range n).flatMap (rowP arch tot T)
theorem rowsP_step (arch tot : Nat) (T : ByteArray) (n : Nat) : rowsP arch tot T (n + 1) = rowsP arch tot T n ++ rowP arch tot T n := by
  unfold rowsP
  rw [List.range_succ, List.flatMap_append]
  simp
theorem padT_size (c : ByteArray) : (padT c).size = 64 * totC c.size := by
  unfold padT totC
  rw [ByteArray.size_append, mkS_size, List.length_replicate]
  omega
theorem printB_append (a b : ByteArray) : printB (a ++ b) = (printB a && printB b) := by
  unfold printB
  rw [ByteArray.data_append, Array.toList_append, List.all_append]
theorem printB_pad (c : ByteArray) (h : printB c = true) : printB (padT c) = true := by
  unfold padT
  rw [printB_append, h, Bool.true_and]
  unfold printB
  rw [data_mkS, List.all_eq_true]
  intro x hx
  rw [List.eq_of_mem_replicate hx]
  rfl
theorem pieceOk (c : ByteArray) (h : printB c = true) (hs : c.size ≤ 900) (i : Nat) (hi : i < totC c.size) : PieceOk i (totC c.size) (pieceT (padT c) i) := by
  have h1 : totC c.size ≤ 15 := by unfold totC; omega
  refine ⟨by omega, by omega, hi, ?_, ?_⟩
  · unfold pieceT
    rw [ByteArray.size_extract, padT_size]
    omega
  · have := printB_pad c h
    unfold printB at this ⊢
    rw [List.all_eq_true] at this ⊢
    intro x hx
    exact this x (extract_mem hx)
theorem split_bad (c : ByteArray) (arch : Int) (hs : c.size ≤ 900) (hp : printB c = false) (w : World) :
    Calls Tryz.prog 13 #[.string c, .int .u32 arch] w fun e w' => e = .returned (.tuple #[.slice none 0 0, .int .i64 3]) ∧ w' = w := by
  have HP := Keep.mk (fun w => printable_any c (by unfold maxLen; omega) w)
  rw [hp] at HP
  have f1 : ¬ (40000 : Int) < c.size := by omega
  clear hp
  go_enter Tryz.func13, Tryz.ntmps13
  go_wp2_with fail
  refine (HP.out _).mono ?_
  rintro _ w2 ⟨rfl, rfl⟩
  go_wp2_with fail
  go_ret2
  exact ⟨rfl, rfl⟩
set_option maxHeartbeats 4000000 in
theorem split_any (c : ByteArray) (arch : Nat) (hs : c.size ≤ 900) (hp : printB c = true) (w : World) :
    Calls Tryz.prog 13 #[.string c, .int .u32 arch] w fun e w' => ∃ v, e = .returned (.tuple #[v, .int .i64 0]) ∧ w'.ownsRow w.heap.size 53 4 v (totC c.size) (rowsP arch (totC c.size) (padT c) (totC c.size)) ∧ Below w.heap.size w w' := by
  obtain ⟨i0, hi, hz0, hz1, hz2⟩ := info_parts Tryz.infoPlain
  have HP := Keep.mk (fun w => printable_any c (by unfold maxLen; omega) w)
  rw [hp] at HP
  have f1 : ¬ (40000 : Int) < c.size := by omega
  have ht1 : totC c.size ≤ 15 := by unfold totC; omega
  have f2 : ((c.size : Int) + 64 - 1).tdiv 64 = (totC c.size : Int) := by unfold totC; rw [Int.tdiv_eq_ediv_of_nonneg (by omega)]; omega
  have HTL : Keep (c.size ≤ 64 * totC c.size ∧ 64 * totC c.size ≤ c.size + 63) := ⟨by unfold totC; omega⟩
  have hT := padT_size c
  obtain ⟨SP, hSP⟩ : ∃ SP, SP = mkS (Lib.repeatL [32] (64 * totC c.size - c.size)) := ⟨_, rfl⟩
  have HPT : Keep (c ++ SP = padT c) := ⟨by
    rw [hSP]
    unfold padT
    rw [repeatL_flatten]
    congr 2
    simp⟩
  have hSz : SP.size = 64 * totC c.size - c.size := by
    rw [hSP, mkS_size, repeatL_flatten]
    simp
  have HR : Keep (∀ w, Calls Tryz.prog 10 #[.string ⟨#[32]⟩, .int .i64 ((totC c.size : Int) * 64 - c.size)] w fun e w' => e = .returned (.string SP) ∧ Below w.heap.size w w') := ⟨fun w => by
    have hh := HTL.out
    have := repeat_any ⟨#[32]⟩ ((totC c.size : Int) * 64 - c.size) w (by omega) (by show 1 * _ ≤ _; omega) (by omega)
    rw [hSP]
    rw [show 64 * totC c.size - c.size = ((totC c.size : Int) * 64 - c.size).toNat by omega]
    exact this⟩
  clear hSP
  clear hp
  go_enter Tryz.func13, Tryz.ntmps13
  go_wp2_with fail
  refine (HP.out _).mono ?_
  rintro _ w2 ⟨rfl, rfl⟩
  go_wp2_with fail
  refine (HR.out _).mono ?_
  rintro _ w3 ⟨rfl, hb3⟩
  have HB3 := Keep.mk hb3
  clear hb3 HR
  have hsp : SP.size ≤ 63 := by have := HTL.out; omega
  clear hSz
  go_upto_region 7 with (fail)
  rw [HPT.out]
  clear HPT hsp
  obtain ⟨T, hTT⟩ : ∃ T, padT c = T := ⟨_, rfl⟩
  obtain ⟨tot, hto⟩ : ∃ tot, tot = totC c.size := ⟨_, rfl⟩
  rw [hTT] at hT ⊢
  rw [← hto] at ht1 hT ⊢
  have HTT := Keep.mk hTT
  have HTO := Keep.mk hto.symm
  clear hTT hto
  clear f2 HTL
  go_wp2_with fail
  go_loopw [7, 31] (fun v i wr => ∃ k : Nat, k ≤ tot ∧ i = .int .i64 k ∧ Keep (wr.ownsRow w2.heap.size 53 4 v k (rowsP arch tot T k)) ∧ Keep (Below w2.heap.size w2 wr)) (fun _ i _ => tot - (intOf i).toNat)
  case atStart => exact ⟨0, Nat.zero_le _, rfl, ⟨rfl, .inl ⟨rfl, rfl⟩⟩, HB3⟩
  case round =>
    obtain ⟨k, hk, rfl, HO, HB⟩ := hrel
    by_cases hlt : k < tot
    · have k0 : (k : Int) < tot := by omega
      have HN := HB.out.size
      go_wp2_with (at_builtin; go_must (refine wpList_append_slc rfl _ _ 47 rfl w2.heap.size 53 i0 (.agg #[.int .u32 0, .int .i64 0, .int .i64 0, .string ⟨#[]⟩]) 4 40 Tryz.underlying47 hi hz0 hz1 hz2 rfl (by decide) _ k (rowsP arch tot T k) rfl (World.ownsRow.alloc HO.out _) _ 1 (rowP arch tot T k) rfl (Slc.made (t := 53) (rowP arch tot T k) (by decide) rfl) (by simp [rowP, Value.oneCell']) (by unfold maxLen; omega) (by omega) (by simp; omega) ?_); intro v9 w9 hown9 hg9 hv9; have H9 := Keep.mk (And.intro hown9 (below_append (HB.out.alloc HN _) (by simp; omega) (World.ownsRow.alloc HO.out _) (Nat.le_refl _) hg9)); clear hown9 hg9 hv9)
      go_roundw
      case rel => exact ⟨k + 1, by omega, by go_num, ⟨by rw [rowsP_step]; exact H9.out.1⟩, ⟨H9.out.2⟩⟩
      case measure => simp [intOf]; omega
    · obtain rfl : k = tot := by omega
      go_wp2_with fail
      go_ret2
      exact ⟨u7, rfl, by rw [HTO.out, HTT.out]; exact HO.out, HB.out⟩

theorem Tryz.infoPlains : (Tryz.prog.info? 47).map (fun i => (i.zero, i.size, i.bytes)) = some (some (.slice none 0 0), 1, 24) := by kernel_rfl
/-- The j-th group of four of the n pieces that lie at (b, o). -/
def grpV (b o n cap j : Nat) : Value := .slice (some ⟨b, o + 16 * j, none⟩) (min 4 (n - 4 * j)) (cap - 4 * j)
def grps (b o n cap m : Nat) : List Value := (List.range m).map (grpV b o n cap)
theorem grps_step (b o n cap m : Nat) : grps b o n cap (m + 1) = grps b o n cap m ++ [grpV b o n cap m] := by
  unfold grps
  rw [List.range_succ, List.map_append]
  rfl
def lenV : Value → Nat
  | .slice _ n _ => n
  | _ => 0
set_option maxHeartbeats 4000000 in
theorem groups_any (b o n cap : Nat) (a : Option Addr) (ha : 0 < n → a = some ⟨b, o, none⟩) (hn : n ≤ cap) (hs : n ≤ 1000) (w : World) :
    Calls Tryz.prog 14 #[.slice a n cap, .int .i64 4] w fun e w' => ∃ v, e = .returned v ∧ w'.ownsRow w.heap.size 47 1 v ((n + 3) / 4) (grps b o n cap ((n + 3) / 4)) ∧ Below w.heap.size w w' := by
  obtain ⟨i0, hi, hz0, hz1, hz2⟩ := info_parts Tryz.infoPlains
  go_enter Tryz.func14, Tryz.ntmps14
  go_wp2_with fail
  go_loopw [0, 5] (fun l v wr => ∃ (j r c : Nat) (x : Option Addr), l = .slice x r c ∧ r = n - 4 * j ∧ r ≤ c ∧ c ≤ cap ∧ j ≤ (n + 3) / 4 ∧ Keep (0 < r → x = some ⟨b, o + 16 * j, none⟩ ∧ c = cap - 4 * j) ∧ Keep (wr.ownsRow w.heap.size 47 1 v j (grps b o n cap j)) ∧ Keep (Below w.heap.size w wr)) (fun l _ _ => lenV l)
  case atStart => exact ⟨0, n, cap, a, rfl, rfl, hn, Nat.le_refl _, Nat.zero_le _, ⟨fun h => ⟨ha h, rfl⟩⟩, ⟨rfl, .inl ⟨rfl, rfl⟩⟩, ⟨Below.refl _ _⟩⟩
  case round =>
    obtain ⟨j, r, c, x, rfl, hr, hrc, hcc, hj, HX, HO, HB⟩ := hrel
    by_cases hlt : 0 < r
    · obtain ⟨rfl, rfl⟩ := HX.out hlt
      have k0 : (0 : Int) < r := by omega
      have HN := HB.out.size
      have hrn : r ≤ 1000 := by omega
      have HR := Keep.mk hr
      have HJ : Keep (j + 1 ≤ (n + 3) / 4) := ⟨by omega⟩
      have HG : Keep (j < 1000) := ⟨by omega⟩
      have HC := Keep.mk hcc
      clear hr hj hcc
      by_cases h4 : 4 ≤ r
      · have e4 : min 4 (r : Int) = 4 := by omega
        have HE : Keep (grpV b o n cap j = .slice (some ⟨b, o + 16 * j, none⟩) 4 (cap - 4 * j)) := ⟨by unfold grpV; rw [← HR.out, Nat.min_eq_left h4]⟩
        have hj1 : j < 1000 := HG.out
        go_wp2_with (at_builtin; go_must (refine wpList_append_slc rfl _ _ 50 rfl w.heap.size 47 i0 (.slice none 0 0) 1 24 Tryz.underlying50 hi hz0 hz1 hz2 rfl (by decide) _ j (grps b o n cap j) rfl (World.ownsRow.alloc HO.out _) _ 1 [.slice (some ⟨b, o + 16 * j, none⟩) 4 (cap - 4 * j)] rfl (Slc.made (t := 47) [.slice (some ⟨b, o + 16 * j, none⟩) 4 (cap - 4 * j)] (by decide) rfl) (by simp [Value.oneCell']) (by unfold maxLen; omega) (by omega) (by simp; omega) ?_); intro v9 w9 hown9 hg9 hv9; have H9 := Keep.mk (And.intro hown9 (below_append (HB.out.alloc HN _) (by simp; omega) (World.ownsRow.alloc HO.out _) (Nat.le_refl _) hg9)); clear hown9 hg9 hv9)
        have hR := HR.out
        have hJ := HJ.out
        have hC := HC.out
        go_roundw
        case rel =>
          refine ⟨j + 1, r - 4, cap - 4 * j - 4, _, rfl, by omega, by omega, by omega, hJ, ⟨fun h => ⟨?_, by omega⟩⟩, ⟨?_⟩, ⟨H9.out.2⟩⟩
          · first | (rw [if_neg (by omega)]; simp only [Option.some.injEq, Addr.mk.injEq, true_and, and_true]; omega) | (exfalso; omega)
          · rw [grps_step, HE.out]; exact H9.out.1
        case measure => simp only [lenV]; omega
      · have e4 : min 4 (r : Int) = r := by omega
        have HE : Keep (grpV b o n cap j = .slice (some ⟨b, o + 16 * j, none⟩) r (cap - 4 * j)) := ⟨by unfold grpV; rw [← HR.out, Nat.min_eq_right (by omega)]⟩
        have hj1 : j < 1000 := HG.out
        go_wp2_with (at_builtin; go_must (refine wpList_append_slc rfl _ _ 50 rfl w.heap.size 47 i0 (.slice none 0 0) 1 24 Tryz.underlying50 hi hz0 hz1 hz2 rfl (by decide) _ j (grps b o n cap j) rfl (World.ownsRow.alloc HO.out _) _ 1 [.slice (some ⟨b, o + 16 * j, none⟩) r (cap - 4 * j)] rfl (Slc.made (t := 47) [.slice (some ⟨b, o + 16 * j, none⟩) r (cap - 4 * j)] (by decide) rfl) (by simp [Value.oneCell']) (by unfold maxLen; omega) (by omega) (by simp; omega) ?_); intro v9 w9 hown9 hg9 hv9; have H9 := Keep.mk (And.intro hown9 (below_append (HB.out.alloc HN _) (by simp; omega) (World.ownsRow.alloc HO.out _) (Nat.le_refl _) hg9)); clear hown9 hg9 hv9)
        have hR := HR.out
        have hJ := HJ.out
        have hC := HC.out
        go_roundw
        case rel =>
          refine ⟨j + 1, 0, cap - 4 * j - r, _, rfl, by omega, by omega, by omega, hJ, ⟨fun h => ⟨?_, by omega⟩⟩, ⟨?_⟩, ⟨H9.out.2⟩⟩
          · first | (rw [if_neg (by omega)]; simp only [Option.some.injEq, Addr.mk.injEq, true_and, and_true]; omega) | (exfalso; omega)
          · rw [grps_step, HE.out]; exact H9.out.1
        case measure => simp only [lenV]; omega
    · have h0 : r = 0 := by omega
      have HE : Keep (j = (n + 3) / 4) := ⟨by omega⟩
      clear hr
      subst h0
      go_wp2_with fail
      go_ret
      exact ⟨u5, rfl, by rw [← HE.out]; exact HO.out, HB.out⟩
end Go.Proofs.YtojgopbaiflfgaaGreatDoor
