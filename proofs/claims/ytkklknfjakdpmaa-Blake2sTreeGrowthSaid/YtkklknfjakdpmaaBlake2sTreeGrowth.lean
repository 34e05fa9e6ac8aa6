/- The law Blake2sTreeGrowth: an appended leaf becomes the right child of a new root; two trees of equal size have a common root. No condition. -/
import Derived.Test.YtkklknfjakdpmaaB2Merkle
import Derived.Test.YtkklknfjakdpmaaOpenStrs
import Derived.Test.YtkklknfjakdpmaaStrOwn
namespace Go.Proofs.Ytkklknfjakdpmaa
open Go.RowKit Go.Shelf Go.Proofs.Ytkklknfjakdpmaa.B2 Go.ChangeShapes Go.WideShapes Go.ChangeAt
open Go.ChangeMaps (open_string shut_string)

theorem cat_app (l m : List ByteArray) : cat (l ++ m) = cat l ++ cat m := by simp [cat]
theorem cat_mem {l : List ByteArray} {i : Nat} {x : ByteArray} (h : l[i]? = some x) : x.size ≤ (cat l).length := by
  obtain ⟨hi, rfl⟩ := List.getElem?_eq_some_iff.1 h
  have h2 : l = l.take i ++ (l[i] :: l.drop (i + 1)) := by rw [← List.drop_eq_getElem_cons hi, List.take_append_drop]
  have h3 := congrArg (fun m => (cat m).length) h2
  simp only [cat, List.flatMap_append, List.flatMap_cons, List.length_append] at h3
  simp only [cat]
  have h4 : (l[i].data.toList).length = l[i].size := by simp
  omega
/-- A tree of three texts. -/
theorem node_sum (m1 m2 : List UInt8) (h1 : m1.length = 32) (h2 : m2.length = 32) (w : World) :
    Calls Try.prog 13 #[.slice (some ⟨w.heap.size, 0, none⟩) 3 3] (w.alloc (.cells #[.string ⟨#[110, 111, 100, 101]⟩, .string (mkS m1), .string (mkS m2)] 9))
      fun e w' => e = .returned (.string (mkS (digest (nodeB ++ m1 ++ m2)))) ∧ Below w.heap.size w w' := by
  have hcx : cat [nodeS, mkS m1, mkS m2] = nodeB ++ m1 ++ m2 := by simp [cat, nodeS, mkS, nodeB]
  have hb := (Below.refl w.heap.size w).alloc (Nat.le_refl _) (.cells (strCells [nodeS, mkS m1, mkS m2]).toArray 9)
  refine (sum_any (l := [nodeS, mkS m1, mkS m2]) (Strs.made w _ 9 (show (3 : Nat) ≤ maxLen by decide)) (show (3 : Nat) ≤ 1000000 by decide) (by rw [hcx]; simp [nodeB]; omega)).mono ?_
  rintro e w' ⟨rfl, h⟩
  rw [hcx]
  exact ⟨rfl, hb.trans (h.mono hb.size)⟩
theorem leaf_sum (x : ByteArray) (hx : x.size ≤ 900000) (w : World) :
    Calls Try.prog 13 #[.slice (some ⟨w.heap.size, 0, none⟩) 2 2] (w.alloc (.cells #[.string ⟨#[108, 101, 97, 102]⟩, .string x] 9))
      fun e w' => e = .returned (.string (mkS (digest (leafB ++ x.data.toList)))) ∧ Below w.heap.size w w' := by
  have hcx : cat [leafS, x] = leafB ++ x.data.toList := by simp [cat, leafS, leafB]
  have hb := (Below.refl w.heap.size w).alloc (Nat.le_refl _) (.cells (strCells [leafS, x]).toArray 9)
  refine (sum_any (l := [leafS, x]) (Strs.made w _ 9 (show (2 : Nat) ≤ maxLen by decide)) (show (2 : Nat) ≤ 1000000 by decide) (by rw [hcx, List.length_append]; simp [leafB]; omega)).mono ?_
  rintro e w' ⟨rfl, h⟩
  rw [hcx]
  exact ⟨rfl, hb.trans (h.mono hb.size)⟩

set_option maxRecDepth 100000 in
set_option maxHeartbeats 4000000 in
theorem blake2sTreeGrowth_any {w : World} {v : Value} {l : List ByteArray} {leaf : ByteArray} (hls : leaf.size ≤ maxLen) (hS : Strs w v l) :
    Calls Try.prog 10 #[v, .string leaf] w fun e w' => e = .returned (.bool true) ∧ Below w.heap.size w w' := by
  obtain ⟨a, cap, rfl, hc1, hc2, _⟩ := hS.at
  have HS := Keep.mk hS
  clear hS
  unfold maxLen at hc2 hls
  go_enter Try.func10, Try.ntmps10
  go_wp2_with fail
  refine (alive_any _).mono ?_
  rintro e w1 ⟨rfl, hb1⟩
  have S1 := Keep.mk (HS.out.below hb1 (Nat.le_refl _))
  have B1 := Keep.mk hb1
  clear hb1 HS
  go_wp2_with fail
  refine (great_any S1.out).mono ?_
  rintro e w2 ⟨⟨g, rfl, hg⟩, rfl⟩
  cases g with
  | true =>
    clear hg
    go_wp2
    go_ret
    exact ⟨rfl, B1.out⟩
  | false =>
    obtain ⟨h40, h2000⟩ := hg rfl
    clear hg
    by_cases hleaf : 200 < leaf.size
    · have hleaf' : (200 : Int) < (leaf.size : Int) := by omega
      go_wp2_with fail
      go_ret
      exact ⟨rfl, B1.out⟩
    have hleaf' : ¬ (200 : Int) < (leaf.size : Int) := by omega
    by_cases hnone : l.length = 0
    · have hnone' : (l.length : Int) = 0 := by omega
      go_wp2_with fail
      go_ret
      exact ⟨rfl, B1.out⟩
    have hnone' : ((l.length : Int) == 0) = false := by rw [beq_eq_false_iff_ne]; omega
    have hdl : decide ((200 : Int) < (leaf.size : Int)) = false := by simp; omega
    obtain ⟨b, o, cap', hv, _, _, hbw, hcell⟩ := S1.out.cons_cases (by intro h; exact hnone (by rw [h]; rfl))
    simp only [Value.slice.injEq, true_and] at hv
    obtain ⟨rfl, rfl⟩ := hv
    have HC := Keep.mk hcell
    have H2000 := Keep.mk h2000
    clear hcell h2000
    go_wp2_with fail
    clear hdl hnone'
    go_loop [5] (fun i => ∃ (e q : Nat), q = 2 ^ e ∧ e ≤ 4 ∧ q ≤ l.length ∧ i = .int .i64 q) (fun i => l.length - (intOf i).toNat)
    case atStart => exact ⟨0, 1, rfl, by omega, by omega, rfl⟩
    case round =>
      obtain ⟨e, q, hq, he, hqN, rfl⟩ := hrel
      have HQ := Keep.mk hq
      have hq1 : 1 ≤ q := by rw [hq]; exact Nat.one_le_two_pow
      have hq16 : q ≤ 16 := by rw [hq]; exact Nat.pow_le_pow_right (n := 2) (by omega) he
      have he4 : q < 16 → e + 1 ≤ 4 := fun h => by
        rw [hq] at h
        exact Nat.lt_of_not_le fun h' => by
          have := Nat.pow_le_pow_right (n := 2) (by omega) h'
          omega
      clear hq
      by_cases hgo : 2 * q ≤ l.length ∧ q < 16
      · obtain ⟨hgo1, hgo2⟩ := hgo
        have := he4 hgo2
        clear he4
        go_wp2_with fail
        go_round
        case rel => exact ⟨e + 1, 2 * q, by rw [HQ.out, Nat.pow_succ, Nat.mul_comm], this, hgo1, by go_num⟩
        case measure => simp [intOf]; omega
      · clear he4
        have hex : ¬ 2 * q ≤ l.length ∨ (2 * q ≤ l.length ∧ ¬ q < 16) := by omega
        clear hgo
        have i0 : (0 : Int) ≤ (q : Int) := by omega
        have i1 : (q : Int) ≤ (l.length : Int) := by omega
        have i2 : (q : Int) ≤ (cap : Int) := by omega
        rcases hex with hx1 | ⟨hx1, hx2⟩
        all_goals
          have hT : (l.take q).length = q := by rw [List.length_take]; omega
          have hcT : (cat (l.take q)).length ≤ 2000 := Nat.le_trans (cat_take_le l q) H2000.out
          have HL := Keep.mk (Strs.left hc1 hc2 hbw HC.out q hqN)
          have HG := Keep.mk (mer_grow (by omega) (hT.trans HQ.out) leaf)
          have HBo := Keep.mk (fun (m : List ByteArray) (hm : m.length = q) => mer_both (by omega) (hT.trans HQ.out) (hm.trans HQ.out))
          have hR32 := mer_length (l.take q)
          have HM := Keep.mk (merkle_any q (l.take q) _ w1 (Nat.le_of_eq hT) (by omega) (by omega) HL.out)
          generalize l.take q = T at *
          go_wp2_with fail
          refine HM.out.mono ?_
          rintro e2 w2 ⟨rfl, hb2⟩
          have L2 := Keep.mk (HL.out.below hb2 (Nat.le_refl _))
          have B2 := Keep.mk hb2
          clear hb2 HL HM
          generalize mer T = R at *
          go_wp2_with (first
            | (at_builtin; refine wpList_append_ownstrs (o := ⟨some 43, _, _, _, _, _⟩) rfl _ _ rfl (base := w2.heap.size) rfl (OwnStrs.made (Nat.le_refl _) [] (by decide)) rfl (L2.out.below ((Below.refl w2.heap.size w2).alloc (Nat.le_refl _) _) (Nat.le_refl _)) (by simp; omega) (by simp) ?_; intro v3 w3 hO3 hB3; have B3 := Keep.mk (((Below.refl w2.heap.size w2).alloc (Nat.le_refl _) _).trans hB3); have hz3 := B3.out.size; clear hB3)
            | (at_builtin; refine wpList_append_ownstrs (o := ⟨some 46, _, _, _, _, _⟩) rfl _ _ rfl (base := w2.heap.size) rfl (hO3.alloc _) rfl (Strs.made _ [leaf] 9 (show (1 : Nat) ≤ maxLen by decide)) (by simp; omega) (by simp; omega) ?_; intro v4 w4 hO4 hB4; have H4 := Keep.mk (And.intro hO4.strs ((B3.out.alloc hz3 _).trans hB4)); clear hB4 hO4 hO3 B3 hz3))
          refine (merkle_any (q + 1) (T ++ [leaf]) v4 w4 (by simp; omega) (by simp; omega) (by rw [cat_app, List.length_append]; simp [cat]; simp [cat] at hcT; omega) H4.out.1).mono ?_
          rintro e5 w5 ⟨rfl, hb5⟩
          rw [HG.out]
          have B5 := Keep.mk (H4.out.2.trans (hb5.mono H4.out.2.size))
          clear hb5 H4
          go_wp2_with fail
          refine (leaf_sum leaf (by omega) w5).mono ?_
          rintro e6 w6 ⟨rfl, hb6⟩
          have B6 := Keep.mk (B5.out.trans (hb6.mono B5.out.size))
          clear hb6 B5
          have hD32 := digest_length (leafB ++ leaf.data.toList)
          generalize digest (leafB ++ leaf.data.toList) = D at *
          go_wp2_with fail
          refine (node_sum R D hR32 hD32 w6).mono ?_
          rintro e7 w7 ⟨rfl, hb7⟩
          have B7 := Keep.mk (B6.out.trans (hb7.mono B6.out.size))
          have L7 := Keep.mk (L2.out.below B7.out (Nat.le_refl _))
          have B17 := Keep.mk (B2.out.trans (B7.out.mono B2.out.size))
          clear hb7 B6 L2 HG
          go_wp2_with fail
          go_loopw [9, 8] (fun i v wr => ∃ (k : Nat) (m : List ByteArray), k ≤ q ∧ i = .int .i64 k ∧ m.length = k ∧ (cat m).length ≤ 2200 * k ∧ OwnStrs w7.heap.size wr v m ∧ Below w7.heap.size w7 wr) (fun i _ _ => q - (intOf i).toNat)
          case atStart => exact ⟨0, [], by omega, rfl, rfl, by simp [cat], OwnStrs.nil _ _, Below.refl _ _⟩
          case round =>
            obtain ⟨k, m, hk, rfl, hm, hcm, hO, hB⟩ := hrel
            have HO := Keep.mk (And.intro hO hB)
            have HMl := Keep.mk hm
            have hwz := hB.size
            by_cases hlt : k < q
            · obtain ⟨x, hx⟩ : ∃ x, l[q - 1 - k]? = some x := ⟨_, List.getElem?_eq_getElem (by omega)⟩
              have hcl := HC.out _ x hx
              have hxs := Nat.le_trans (cat_mem hx) H2000.out
              have hcl2 := (B17.out.cell (p := ⟨b, o + (q - 1 - k), none⟩) hbw).trans hcl
              have hcl3 := (hB.cell (p := ⟨b, o + (q - 1 - k), none⟩) (Nat.lt_of_lt_of_le hbw B17.out.size)).trans hcl2
              obtain ⟨y, hy⟩ : ∃ y, y = leaf ++ x := ⟨_, rfl⟩
              have hcat := fun (wx : World) => run_string_add_sum (P := Try.prog) wx leaf x (by omega)
              rw [← hy] at hcat
              have hys : y.size ≤ 2200 := by rw [hy, ByteArray.size_append]; omega
              clear hx hcl hcl2 hy hO hB hm
              have k0 : (0 : Int) ≤ (k : Int) := by omega
              have k1 : (k : Int) < (q : Int) := by omega
              go_wp2_with (at_builtin; refine wpList_append_ownstrs (o := ⟨some 71, _, _, _, _, _⟩) rfl _ _ rfl (base := w7.heap.size) rfl (HO.out.1.alloc _) rfl (Strs.made _ [y] 9 (show (1 : Nat) ≤ maxLen by decide)) (by rw [HMl.out]; show k + 1 ≤ 1000000; omega) (by simp; omega) ?_; intro v8 w8 hO8 hB8; have H8 := Keep.mk (And.intro hO8 ((HO.out.2.alloc hwz _).trans hB8)); clear hO8 hB8 HO)
              go_roundw
              case rel => exact ⟨k + 1, m ++ [y], by omega, by go_num, by rw [List.length_append, HMl.out]; rfl, by rw [cat_app, List.length_append]; simp [cat] at hcm ⊢; omega, H8.out.1, H8.out.2⟩
              case measure => simp [intOf]; omega
            · have hkq : k = q := by omega
              subst hkq
              have HM2 := Keep.mk (HBo.out m hm)
              have hM32 := mer_length m
              have SM := Keep.mk hO.strs
              have SL := Keep.mk (L7.out.below hB (Nat.le_refl _))
              have BW := Keep.mk (B1.out.trans ((B17.out.trans (hB.mono B17.out.size)).mono B1.out.size))
              generalize hwo : wr = wo at *
              clear hO hB HO HBo L7 B17 B7 hwz hm B2 H2000 HC S1 hwo
              go_wp2_with (first
                | (at_builtin; refine wpList_append_ownstrs (o := ⟨some 74, _, _, _, _, _⟩) rfl _ _ rfl (base := wo.heap.size) rfl (OwnStrs.made (Nat.le_refl _) [] (by decide)) rfl (SL.out.below ((Below.refl wo.heap.size wo).alloc (Nat.le_refl _) _) (Nat.le_refl _)) (by simp; omega) (by simp) ?_; intro v8 w8 hO8 hB8; have B8 := Keep.mk (((Below.refl wo.heap.size wo).alloc (Nat.le_refl _) _).trans hB8); have hz8 := B8.out.size; clear hB8)
                | (at_builtin; refine wpList_append_ownstrs (o := ⟨some 76, _, _, _, _, _⟩) rfl _ _ rfl (base := wo.heap.size) rfl hO8 rfl (SM.out.below B8.out (Nat.le_refl _)) (by simp; rw [hT, HMl.out]; omega) hz8 ?_; intro v9 w9 hO9 hB9; have H9 := Keep.mk (And.intro hO9.strs (B8.out.trans hB9)); clear hB9 hO9 hO8 B8 hz8))
              refine (merkle_any (2 * k) (T ++ m) v9 w9 (by rw [List.length_append, hT, HMl.out]; omega) (by rw [List.length_append, hT, HMl.out]; omega) (by rw [cat_app, List.length_append]; omega) H9.out.1).mono ?_
              rintro e10 w10 ⟨rfl, hb10⟩
              rw [HM2.out]
              have B10 := Keep.mk (H9.out.2.trans (hb10.mono H9.out.2.size))
              have S10 := Keep.mk (SM.out.below B10.out (Nat.le_refl _))
              clear hb10 H9 HM2 SM SL
              go_wp2_with fail
              refine (merkle_any k m _ w10 (by rw [HMl.out]; omega) (by rw [HMl.out]; omega) (by omega) S10.out).mono ?_
              rintro e11 w11 ⟨rfl, hb11⟩
              have B11 := Keep.mk (B10.out.trans (hb11.mono B10.out.size))
              clear hb11 B10 S10
              generalize mer m = M at *
              go_wp2_with fail
              refine (node_sum R M hR32 hM32 w11).mono ?_
              rintro e12 w12 ⟨rfl, hb12⟩
              have B12 := Keep.mk (BW.out.trans ((B11.out.trans (hb12.mono B11.out.size)).mono BW.out.size))
              clear hb12 B11 BW
              go_wp2_with fail
              go_ret
              exact ⟨by simp, B12.out⟩
theorem Blake2sTreeGrowth_walk : LawWalk 10 Try.f10 := by
  intro H enc W base args ds ps hval hA hsz
  rw [Try.params10] at hA hval hsz
  obtain ⟨v0, vs0, d0, ds0, p0, q0, hargs, rfl, rfl, h0, r0⟩ := trodAll_cons hA
  obtain ⟨v1, vs1, d1, ds1, p1, q1, rfl, rfl, rfl, h1, r1⟩ := trodAll_cons r0
  obtain ⟨rfl, rfl, rfl⟩ := trodAll_nil r1
  obtain rfl : args = #[v0, v1] := by cases args; simp_all
  obtain ⟨l, k1, _⟩ := open_strs0 (hval 0 22 v0 rfl rfl) h0 (sized_each hsz (j := 0) rfl rfl)
  obtain ⟨s, rfl, rfl, rfl, ws⟩ := open_string Try.underlying9 (hval 1 9 v1 rfl rfl) h1
  exact blake2sTreeGrowth_any (by simpa [maxLen] using ws) k1
end Go.Proofs.Ytkklknfjakdpmaa
namespace Go.Proofs.Ytkklknfjakdpmaa
open Go.ChangeShapes Go.WideShapes Go.ChangeAt Go.RowKit
set_option maxRecDepth 100000 in
theorem Blake2sTreeGrowth_lifted (os : Os) (started : os.Started) (H : Type) (enc : TypeId × Value → H) :
    ReturnsInHanded {} Try.checked os 10 .any (Rows.blake2sTreeGrowthSpec.pre6 enc Try.prog Try.f10 Rows.blake2sTreeGrowthRow.domain false) (Rows.blake2sTreeGrowthSpec.post enc Try.prog Try.f10 false true false false) := by
  refine returnsInHanded_of_change_sized (C := Try.checked) own started (by kernel_rfl) Try.func10
    (ChangeSpec.witness6 (enc := enc) (C := Try.checked) false ⟨#[], #[.slice none 0 0, .string ⟨#[]⟩], []⟩ 8 (by kernel_rfl) (by kernel_rfl) (by kernel_rfl) (by kernel_rfl)) ?_
  exact law_contract (by kernel_rfl) (by kernel_rfl) ⟨rfl, fun H ds h => by rw [Try.params10] at h; match ds, h with | [d0, d1], _ => rfl⟩ Blake2sTreeGrowth_walk
theorem Blake2sTreeGrowth_over : Rows.blake2sTreeGrowthRow.holds Try.pinned (OpenSpec.ofChange Rows.blake2sTreeGrowthSpec) :=
  OpenClaim.holds_of_wide 10 Try.f10 rfl rfl rfl rfl rfl rfl rfl ⟨rfl, rfl, rfl, rfl, rfl⟩ rfl rfl rfl rfl rfl (by kernel_rfl) Try.func10 (by kernel_rfl)
    (of_decide_eq_true (by kernel_rfl)) (by unfold Func.isWrapper; first | (rw [if_pos (by decide +kernel)]; kernel_rfl) | (rw [if_neg (by decide +kernel)]; exact ⟨rfl, rfl⟩))
    (fun os started H enc _ => Blake2sTreeGrowth_lifted os started H enc)
theorem Blake2sTreeGrowth_proved : Rows.Blake2sTreeGrowthSaid := Blake2sTreeGrowth_over
end Go.Proofs.Ytkklknfjakdpmaa
