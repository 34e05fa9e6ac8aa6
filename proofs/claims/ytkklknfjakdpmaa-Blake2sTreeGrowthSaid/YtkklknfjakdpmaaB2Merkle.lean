/- Merkle, of the program and of the reference. Condition: at most 64 leaves, at most 900000 bytes. -/
import Derived.Test.YtkklknfjakdpmaaB2Alive
import Derived.Test.YtkklknfjakdpmaaB2Great
import Derived.Test.YtkklknfjakdpmaaB2Tree
import Derived.Deep.RegionHeld3
import Derived.IntWalk
import Derived.Outline
namespace Go.Proofs.Ytkklknfjakdpmaa
open Go.RowKit Go.Shelf Go.Proofs.Ytkklknfjakdpmaa.B2

theorem Strs.left {w : World} {b o cap : Nat} {l : List ByteArray} (hc : l.length ≤ cap) (hm : cap ≤ maxLen) (hb : b < w.heap.size) (h : ∀ i s, l[i]? = some s → w.cell? ⟨b, o + i, none⟩ = some (.string s)) (k : Nat) (hk : k ≤ l.length) :
    Strs w (.slice (some ⟨b, o, none⟩) k cap) (l.take k) := by
  refine ⟨_, cap, by rw [List.length_take, Nat.min_eq_left hk], by rw [List.length_take]; omega, hm, .inr ⟨b, o, rfl, hb, fun i s hi => h i s ?_⟩⟩
  rw [List.getElem?_take] at hi
  split at hi
  · exact hi
  · cases hi
theorem Strs.right {w : World} {b o cap : Nat} {l : List ByteArray} (hc : l.length ≤ cap) (hm : cap ≤ maxLen) (hb : b < w.heap.size) (h : ∀ i s, l[i]? = some s → w.cell? ⟨b, o + i, none⟩ = some (.string s)) (k : Nat) (hk : k ≤ l.length) :
    Strs w (.slice (some ⟨b, o + k, none⟩) (l.length - k) (cap - k)) (l.drop k) := by
  refine ⟨_, cap - k, by rw [List.length_drop], by rw [List.length_drop]; omega, Nat.le_trans (Nat.sub_le _ _) hm, .inr ⟨b, o + k, rfl, hb, fun i s hi => ?_⟩⟩
  rw [List.getElem?_drop] at hi
  have := h _ s hi
  rwa [← Nat.add_assoc] at this
theorem cat_split (l : List ByteArray) (k : Nat) : cat l = cat (l.take k) ++ cat (l.drop k) := by unfold cat; rw [← List.flatMap_append, List.take_append_drop]
theorem cat_drop_le (l : List ByteArray) (k : Nat) : (cat (l.drop k)).length ≤ (cat l).length := by rw [cat_split l k, List.length_append]; omega
theorem mer_length (l : List ByteArray) : (mer l).length = 32 := by
  rw [mer]
  split
  · exact digest_length _
  · split <;> exact digest_length _
def emptyS : ByteArray := ⟨#[101, 109, 112, 116, 121]⟩
def leafS : ByteArray := ⟨#[108, 101, 97, 102]⟩
def nodeS : ByteArray := ⟨#[110, 111, 100, 101]⟩
theorem held_on {w3 wx w' : World} (h : Below wx.heap.size wx w') (h3 : Below w3.heap.size w3 wx) : Below w3.heap.size w3 w' := h3.trans (h.mono h3.size)

theorem held_alloc {w3 wx : World} (h : Below w3.heap.size w3 wx) (o : Obj) : Below w3.heap.size w3 (wx.alloc o) := h.alloc h.size o

set_option maxRecDepth 100000 in
set_option maxHeartbeats 4000000 in
theorem merkle_any (n : Nat) : ∀ (l : List ByteArray) (v : Value) (w : World), l.length ≤ n → l.length ≤ 64 → (cat l).length ≤ 900000 → Strs w v l →
    Calls Try.prog 20 #[v] w fun e w' => e = .returned (.string (mkS (mer l))) ∧ Below w.heap.size w w' := by
  induction n with
  | zero =>
    intro l v w hn h64 hcat hS
    have : l = [] := List.eq_nil_of_length_eq_zero (by omega)
    subst this
    obtain ⟨a, cap, rfl, _⟩ := hS.nil_cases
    rw [mer_nil]
    have hb0 := Keep.mk ((Below.refl w.heap.size w).alloc (Nat.le_refl _) (.cells (strCells [emptyS]).toArray 9))
    have hs0 := Keep.mk (Strs.made w [emptyS] 9 (by decide))
    go_enter Try.func20, Try.ntmps20
    go_wp2_with fail
    refine (sum_any (l := [emptyS]) hs0.out (by decide) (by decide)).mono ?_
    rintro e w1 ⟨rfl, hb1⟩
    have H1 := Keep.mk (hb0.out.trans (hb1.mono hb0.out.size))
    clear hb0 hs0 hb1
    go_wp2
    go_ret
    exact ⟨rfl, H1.out⟩
  | succ n ih =>
    intro l v w hn h64 hcat hS
    by_cases h1 : l.length ≤ 1
    · match l, h1 with
      | [], _ => exact ih [] v w (Nat.zero_le _) h64 hcat hS
      | [x], _ =>
        obtain ⟨b, o, cap, rfl, hc1, hc2, hbw, hcell⟩ := hS.cons_cases (by simp)
        have hx := hcell 0 x rfl
        rw [Nat.add_zero] at hx
        clear hcell hS
        simp only [List.length_cons, List.length_nil, Nat.zero_add] at hc1 ⊢
        rw [mer_one]
        have hb0 := Keep.mk ((Below.refl w.heap.size w).alloc (Nat.le_refl _) (.cells (strCells [leafS, x]).toArray 9))
        have hs0 := Keep.mk (Strs.made w [leafS, x] 9 (show (2 : Nat) ≤ maxLen by decide))
        have hct : (cat [leafS, x]).length ≤ 1000000 := by simp [cat] at hcat; simp [cat, leafS]; omega
        have hct' := Keep.mk hct
        have hcx := Keep.mk (show cat [leafS, x] = leafB ++ x.data.toList by simp [cat, leafS, leafB])
        clear hct hcat hn h64
        go_enter Try.func20, Try.ntmps20
        go_wp2_with fail
        refine (sum_any (l := [leafS, x]) hs0.out (show (2 : Nat) ≤ 1000000 by decide) hct'.out).mono ?_
        rintro e w1 ⟨rfl, hb1⟩
        rw [hcx.out]
        have H1 := Keep.mk (hb0.out.trans (hb1.mono hb0.out.size))
        clear hb0 hs0 hb1 hx
        go_wp2
        go_ret
        exact ⟨rfl, H1.out⟩
    · obtain ⟨b, o, cap, rfl, hc1, hc2, hbw, hcell⟩ := hS.cons_cases (by intro h; subst h; exact h1 (by simp))
      have h2 : 2 ≤ l.length := by omega
      obtain ⟨k, hk⟩ : ∃ k, k = cutAt l.length := ⟨_, rfl⟩
      have hkp := cutAt_pos l.length
      have hkl := cutAt_lt h2
      obtain ⟨hke, hb6, hb1⟩ := cutAt_le ⟨l.length, by omega⟩ h2
      rw [← hk] at hkp hkl
      simp only at hke hb6 hb1
      rw [← hk] at hke
      have hkeep := Keep.mk hk
      have SL := Keep.mk (fun (wx : World) (h : Below w.heap.size w wx) => ih _ _ wx (by rw [List.length_take]; omega) (by rw [List.length_take]; omega) (Nat.le_trans (cat_take_le l k) hcat) ((Strs.left hc1 hc2 hbw hcell k (by omega)).below h (Nat.le_refl _)))
      have SR := Keep.mk (fun (wx : World) (h : Below w.heap.size w wx) => ih _ _ wx (by rw [List.length_drop]; omega) (by rw [List.length_drop]; omega) (Nat.le_trans (cat_drop_le l k) hcat) ((Strs.right hc1 hc2 hbw hcell k (by omega)).below h (Nat.le_refl _)))
      have HM := Keep.mk (mer_more h2)
      rw [← hkeep.out] at HM
      clear hS hcell ih hk hcat hn hkeep
      have hM1 := mer_length (l.take k)
      have hM2 := mer_length (l.drop k)
      rw [HM.out]
      generalize mer (l.take k) = m1 at *
      generalize mer (l.drop k) = m2 at *
      have hct := Keep.mk (show (cat [nodeS, mkS m1, mkS m2]).length ≤ 1000000 by simp [cat, nodeS, mkS]; omega)
      have hcx := Keep.mk (show cat [nodeS, mkS m1, mkS m2] = nodeB ++ m1 ++ m2 by simp [cat, nodeS, mkS, nodeB])
      generalize hN : l.length = N at *
      clear HM hM1 hM2 hN
      obtain ⟨q, hq⟩ : ∃ q, q = Lib.bitLen (N - 1) := ⟨_, rfl⟩
      rw [← hq] at hb6 hb1 hke
      have hQ := Keep.mk hq
      have hpow : 2 ^ (q - 1) = k := hke.symm
      have hK := Keep.mk hpow
      clear hq hke hpow
      unfold maxLen at hc2
      have n0 : (2 : Int) ≤ N := by omega
      have n1 : (N : Int) ≤ 64 := by omega
      go_enter Try.func20, Try.ntmps20
      go_wp2_with fail
      refine (Try.bits_Len ((N : Int) - 1) _ (by omega) (by omega)).mono ?_
      rintro e w' ⟨rfl, hw'⟩
      obtain rfl : w = w' := hw'.symm
      rw [show ((N : Int) - 1).toNat = N - 1 by omega, ← hQ.out]
      clear hw'
      have q0 : (1 : Int) ≤ q := by omega
      have q1 : (q : Int) < 7 := by omega
      have hpw : (2 : Int) ^ (q - 1) = (k : Int) := by rw [← hK.out]; simp
      go_upto_region 4 with (fail)
      clear hpw q0 q1 hb1 hb6 hQ hK
      have k0 : (0 : Int) ≤ (k : Int) := by omega
      have k1 : (k : Int) ≤ (N : Int) := by omega
      have k2 : (k : Int) < (cap : Int) := by omega
      have k3 : (k : Int) ≤ (cap : Int) := by omega
      have k4 : ¬ cap = k := by omega
      have HSum := fun (wx : World) => sum_any (l := [nodeS, mkS m1, mkS m2]) (Strs.made wx _ 9 (show (3 : Nat) ≤ maxLen by decide)) (show (3 : Nat) ≤ 1000000 by decide) hct.out
      have hSL := SL.out
      have hSR := SR.out
      clear SL SR
      have k5 : ¬ cap - k = 0 := by omega
      go_region_held3 (fun w' => Below w.heap.size w w')
        (first | with_reducible exact (Below.refl w.heap.size w).drew | with_reducible exact Below.refl w.heap.size w | exact held_on hb4 (by assumption) | exact held_alloc (by assumption) _ | assumption)
        (first
        | (go_at_call 20; (with_reducible refine (hSL _ ?_).mono ?_); (assumption); rintro e w4 ⟨rfl, hb4⟩)
        | (go_at_call 20; (with_reducible refine (hSR _ ?_).mono ?_); (assumption); rintro e w4 ⟨rfl, hb4⟩)
        | (go_at_call 13; refine (HSum _).mono ?_; rintro e w4 ⟨rfl, hb4⟩))
      have hfin : Below w.heap.size w w4 := by assumption
      have HF := Keep.mk hfin
      clear hfin hb4 HSum hSL hSR
      rw [hcx.out]
      go_wp2_with fail
      go_ret
      exact ⟨rfl, HF.out⟩

set_option maxRecDepth 100000 in
set_option maxHeartbeats 4000000 in
theorem refMerkle_any (n : Nat) : ∀ (l : List ByteArray) (v : Value) (w : World), l.length ≤ n → l.length ≤ 64 → (cat l).length ≤ 900000 → Strs w v l →
    Calls Try.prog 21 #[v] w fun e w' => e = .returned (.string (mkS (mer l))) ∧ Below w.heap.size w w' := by
  induction n with
  | zero =>
    intro l v w hn h64 hcat hS
    have : l = [] := List.eq_nil_of_length_eq_zero (by omega)
    subst this
    obtain ⟨a, cap, rfl, _⟩ := hS.nil_cases
    rw [mer_nil]
    go_enter Try.func21, Try.ntmps21
    go_wp2_with fail
    refine (digest_any emptyS (by decide) _).mono ?_
    rintro e w1 ⟨rfl, hb1⟩
    have H1 := Keep.mk hb1
    clear hb1
    go_wp2
    go_ret
    exact ⟨rfl, H1.out⟩
  | succ n ih =>
    intro l v w hn h64 hcat hS
    by_cases h1 : l.length ≤ 1
    · match l, h1 with
      | [], _ => exact ih [] v w (Nat.zero_le _) h64 hcat hS
      | [x], _ =>
        obtain ⟨b, o, cap, rfl, hc1, hc2, hbw, hcell⟩ := hS.cons_cases (by simp)
        have hx := hcell 0 x rfl
        rw [Nat.add_zero] at hx
        clear hcell hS
        simp only [List.length_cons, List.length_nil, Nat.zero_add] at hc1 ⊢
        rw [mer_one]
        have hxs : x.size ≤ 900000 := by simpa [cat] using hcat
        obtain ⟨y, hy⟩ : ∃ y, y = leafS ++ x := ⟨_, rfl⟩
        have hcx := Keep.mk (show y.data.toList = leafB ++ x.data.toList by rw [hy]; simp [leafS, leafB])
        have hys := Keep.mk (show y.size ≤ 1000000 by rw [hy, ByteArray.size_append, show leafS.size = 4 from rfl]; omega)
        have hcat2 := fun (wx : World) => run_string_add_sum (P := Try.prog) wx leafS x (by rw [show leafS.size = 4 from rfl]; omega)
        rw [← hy] at hcat2
        unfold leafS at hcat2
        clear hcat hn h64 hxs hy
        go_enter Try.func21, Try.ntmps21
        go_wp2_with fail
        refine (digest_any y hys.out _).mono ?_
        rintro e w1 ⟨rfl, hb1⟩
        rw [hcx.out]
        have H1 := Keep.mk hb1
        clear hb1 hx hcat2
        go_wp2
        go_ret
        exact ⟨rfl, H1.out⟩
    · obtain ⟨b, o, cap, rfl, hc1, hc2, hbw, hcell⟩ := hS.cons_cases (by intro h; subst h; exact h1 (by simp))
      have h2 : 2 ≤ l.length := by omega
      obtain ⟨k, hk⟩ : ∃ k, k = cutAt l.length := ⟨_, rfl⟩
      have hkp := cutAt_pos l.length
      have hkl := cutAt_lt h2
      rw [← hk] at hkp hkl
      have hkeep := Keep.mk hk
      have SL := Keep.mk (fun (wx : World) (h : Below w.heap.size w wx) => ih _ _ wx (by rw [List.length_take]; omega) (by rw [List.length_take]; omega) (Nat.le_trans (cat_take_le l k) hcat) ((Strs.left hc1 hc2 hbw hcell k (by omega)).below h (Nat.le_refl _)))
      have SR := Keep.mk (fun (wx : World) (h : Below w.heap.size w wx) => ih _ _ wx (by rw [List.length_drop]; omega) (by rw [List.length_drop]; omega) (Nat.le_trans (cat_drop_le l k) hcat) ((Strs.right hc1 hc2 hbw hcell k (by omega)).below h (Nat.le_refl _)))
      have HM := Keep.mk (mer_more h2)
      rw [← hkeep.out] at HM
      have HST := Keep.mk (fun (e : Nat) (h1 : 2 ^ e < l.length) (h2' : l.length ≤ 2 * 2 ^ e) => show 2 ^ e = k from by
        rw [hk]
        have he : e < 7 := Nat.lt_of_not_le fun h => by
          have := Nat.pow_le_pow_right (n := 2) (by omega) h
          omega
        exact cutAt_stop ⟨l.length, by omega⟩ ⟨e, he⟩ h2 h1 h2')
      clear hS hcell ih hk hcat hn hkeep
      have hM1 := mer_length (l.take k)
      have hM2 := mer_length (l.drop k)
      rw [HM.out]
      generalize mer (l.take k) = m1 at *
      generalize mer (l.drop k) = m2 at *
      obtain ⟨y1, hy1⟩ : ∃ y, y = nodeS ++ mkS m1 := ⟨_, rfl⟩
      obtain ⟨y2, hy2⟩ : ∃ y, y = y1 ++ mkS m2 := ⟨_, rfl⟩
      have z1 : y1.size = 36 := by rw [hy1]; simp [nodeS, mkS, ByteArray.size]; omega
      have z2 : y2.size = 68 := by rw [hy2]; rw [ByteArray.size_append, z1, size_mkS]; omega
      have hcat1 := fun (wx : World) => run_string_add_sum (P := Try.prog) wx nodeS (mkS m1) (by rw [size_mkS, hM1]; decide)
      have hcat2 := fun (wx : World) => run_string_add_sum (P := Try.prog) wx y1 (mkS m2) (by rw [size_mkS, hM2, z1]; decide)
      rw [← hy1] at hcat1
      rw [← hy2] at hcat2
      unfold nodeS at hcat1
      have hcx := Keep.mk (show y2.data.toList = nodeB ++ m1 ++ m2 by rw [hy2, hy1]; simp [nodeS, mkS, nodeB])
      have hsz := Keep.mk (show y2.size ≤ 1000000 by omega)
      generalize hN : l.length = N at *
      generalize mkS m1 = s1 at *
      generalize mkS m2 = s2 at *
      clear HM hM1 hM2 hN z1 z2 hy1 hy2
      have HD := fun (wx : World) => digest_any y2 hsz.out wx
      unfold maxLen at hc2
      have n0 : (2 : Int) ≤ N := by omega
      have n1 : (N : Int) ≤ 64 := by omega
      go_enter Try.func21, Try.ntmps21
      go_wp2_with fail
      have HD' := Keep.mk HD
      have HC1 := Keep.mk hcat1
      have HC2 := Keep.mk hcat2
      clear HD hcat1 hcat2
      go_loop [3] (fun i => ∃ (e q : Nat), q = 2 ^ e ∧ q < N ∧ i = .int .i64 q) (fun i => N - (intOf i).toNat)
      case atStart => exact ⟨0, 1, rfl, by omega, rfl⟩
      case round =>
        obtain ⟨e, q, hq, hqN, rfl⟩ := hrel
        have HQ := Keep.mk hq
        have hq1 : 1 ≤ q := by rw [hq]; exact Nat.one_le_two_pow
        clear hq
        by_cases hlt : 2 * q < N
        · go_wp2_with fail
          go_round
          case rel => exact ⟨e + 1, 2 * q, by rw [HQ.out, Nat.pow_succ, Nat.mul_comm], hlt, by go_num⟩
          case measure => simp [intOf]; omega
        · have hqk := HST.out e (by rw [← HQ.out]; omega) (by rw [← HQ.out]; omega)
          rw [← HQ.out] at hqk
          subst hqk
          clear HST HQ
          have k0 : (0 : Int) ≤ (q : Int) := by omega
          have k1 : (q : Int) ≤ (N : Int) := by omega
          have k2 : (q : Int) < (cap : Int) := by omega
          have k3 : (q : Int) ≤ (cap : Int) := by omega
          have k4 : ¬ cap = q := by omega
          go_wp2_with fail
          have HSum := HD'.out
          have hcat1 := HC1.out
          have hcat2 := HC2.out
          have hSL := SL.out
          have hSR := SR.out
          clear SL SR HC1 HC2 HD'
          have k5 : ¬ cap - q = 0 := by omega
          go_region_held3 (fun w' => Below w.heap.size w w')
            (first | with_reducible exact (Below.refl w.heap.size w).drew | with_reducible exact Below.refl w.heap.size w | exact held_on hb4 (by assumption) | exact held_alloc (by assumption) _ | assumption)
            (first
            | (go_at_call 21; (with_reducible refine (hSL _ ?_).mono ?_); (assumption); rintro e w4 ⟨rfl, hb4⟩)
            | (go_at_call 21; (with_reducible refine (hSR _ ?_).mono ?_); (assumption); rintro e w4 ⟨rfl, hb4⟩)
            | (go_at_call 25; refine (HSum _).mono ?_; rintro e w4 ⟨rfl, hb4⟩))
          have hfin : Below w.heap.size w w4 := by assumption
          have HF := Keep.mk hfin
          clear hfin hb4 HSum hSL hSR hcat1 hcat2
          rw [hcx.out]
          go_wp2_with fail
          go_ret
          exact ⟨rfl, HF.out⟩
end Go.Proofs.Ytkklknfjakdpmaa
