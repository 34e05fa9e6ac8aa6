/- Get of the program: the bytes of valid extents. Condition: at most 65536 bytes. -/
import Derived.Test.YtomlknjpaielgaaRoundMath
import Derived.Test.YtomlknjpaielgaaZerosOn
import Derived.Test.YtomlknjpaielgaaStored
import Derived.StillTailTactics
import Derived.Deep.DeepMust
namespace Go.Proofs.Ytomlknjpaielgaa
set_option maxRecDepth 100000
open Go.RowKit Go.Shelf Go.Proofs.Ytomlknjpaielgaa.Store

theorem OwnB.form {base : Nat} {w : World} {v : Value} {l : List UInt8} (h : OwnB base w v l) : ∃ a c, v = .slice a l.length c := by
  rcases h.2 with ⟨hv, hn0⟩ | ⟨g, cap, cur, hv, _⟩
  · exact ⟨none, 0, by rw [hv, hn0]⟩
  · exact ⟨_, cap, hv⟩
theorem catE_take {A : List ByteArray} {es : List Ext} {k : Nat} {e : Ext} (h : es[k]? = some e) : catE A (es.take (k + 1)) = catE A (es.take k) ++ valE A e := by
  rw [List.take_add_one, h, catE_append]
  show catE A (es.take k) ++ catE A [e] = _
  rw [catE_one]
theorem catE_le {A : List ByteArray} {es : List Ext} (k : Nat) : (catE A (es.take k)).length ≤ (catE A es).length := by
  have : catE A es = catE A (es.take k) ++ catE A (es.drop k) := by rw [← catE_append, List.take_append_drop]
  rw [this, List.length_append]; omega

set_option maxHeartbeats 4000000 in
theorem get_any {w : World} {sv ev : Value} {A : List ByteArray} {es : List Ext} (hA : Strs w sv A) (hE : Exts w ev es) (hok : ∀ e ∈ es, OkE A e) (htot : (catE A es).length ≤ 65536) (hsz : ∀ s ∈ A, s.size ≤ 1000000) :
    Calls Try.prog 23 #[sv, ev] w fun e w' => e = .returned (.tuple #[.string (mkS (catE A es)), .int .i64 0]) ∧ Below w.heap.size w w' := by
  obtain ⟨sa, sc, rfl, hs1, hs2, hs3⟩ := hA.at
  obtain ⟨ea, ec, rfl, he1, he2, he3⟩ := hE.parts
  unfold maxLen at hs2 he2
  have HS := Keep.mk hs3
  have HE := Keep.mk he3
  have HO := Keep.mk hok
  have HZ := Keep.mk hsz
  have HT := Keep.mk htot
  clear hs3 he3 hok hsz hA hE htot
  go_enter Try.func23, Try.ntmps23
  go_wp2_with fail
  go_loopw [12, 6] (fun i s6 wr => ∃ k : Nat, k ≤ es.length ∧ i = .int .i64 k ∧ Keep (OwnB w.heap.size wr s6 (catE A (es.take k))) ∧ Keep (Below w.heap.size w wr)) (fun i _ _ => es.length - (intOf i).toNat)
  case atStart => exact ⟨0, Nat.zero_le _, rfl, ⟨World.ownsRow_nil _ _ _ _⟩, ⟨Below.refl _ _⟩⟩
  case round =>
    obtain ⟨k, hk, rfl, HB, HW⟩ := hrel
    by_cases hlt : k < es.length
    · have k0 : (0 : Int) ≤ k := by omega
      have k1 : (k : Int) < es.length := by omega
      obtain ⟨e, hek⟩ : ∃ e, es[k]? = some e := ⟨_, List.getElem?_eq_getElem hlt⟩
      obtain ⟨b, o, rfl, hb, c0, c1, c2⟩ := HE.out k e hek
      have hoe := HO.out e (List.mem_of_getElem? hek)
      have hct := catE_take (A := A) hek
      have hle := catE_le (A := A) (es := es) (k + 1)
      have hvl := hoe.length
      rw [hct, List.length_append, hvl] at hle
      have htt := HT.out
      obtain ⟨es', eo, en⟩ := e
      obtain ⟨o1, o2, o3, o4, o5, o6⟩ := hoe
      simp only at c0 c1 c2 o1 o2 o3 o4 o5 o6 hle
      have d0 := (HW.out.cell (p := ⟨b, o + k * 3, none⟩) hb).trans c0
      have d1 := (HW.out.cell (p := ⟨b, o + k * 3 + 1, none⟩) hb).trans c1
      have d2 := (HW.out.cell (p := ⟨b, o + k * 3 + 2, none⟩) hb).trans c2
      obtain ⟨n, rfl⟩ := Int.eq_ofNat_of_zero_le (show 0 ≤ en by omega)
      obtain ⟨u1, u2, rfl⟩ := HB.out.form
      have HCT := Keep.mk hct
      have hlb : b < wr.heap.size := Nat.lt_of_lt_of_le hb HW.out.size
      clear hek hct hvl c0 c1 c2 HE
      generalize hcl : (catE A (List.take k es)).length = m at *
      have HCL := Keep.mk hcl
      simp only [Int.toNat_natCast] at hle
      clear hcl
      have n0 : ¬ (n : Int) < 0 := by omega
      have hroom : ¬ 65536 - (m : Int) < (n : Int) := by omega
      by_cases hs0 : es' = 0
      · subst hs0
        have ho0 : eo = 0 := o5 rfl
        subst ho0
        have z1 : ¬ (A.length : Int) < 0 := by omega
        have hv : valE A (0, 0, (n : Int)) = List.replicate n 0 := by simp [valE]
        rw [hv] at HCT
        clear o1 o2 o3 o5 o6 hv
        go_upto_region 14 with (fail)
        have hb2 : Below w.heap.size w (wr.alloc (.cells #[.int .i64 0, .int .i64 0, .int .i64 (n : Int)] 42)) := HW.out.alloc HW.out.size _
        have HB2 := Keep.mk (OwnB.below HB.out ((Below.refl _ _).alloc (Nat.le_refl _) (.cells #[.int .i64 0, .int .i64 0, .int .i64 (n : Int)] 42)))
        have HW2 := Keep.mk hb2
        clear hb2 HB
        go_wp2_with (at_builtin; refine wpList_append_zeros (w0 := w) rfl _ _ rfl rfl HB2.out HW2.out (k := n) rfl (by omega) (by rw [HCL.out]; omega) ?_; intro v7 w7 ho7 hb7; have H7 := Keep.mk (And.intro ho7 hb7); clear ho7 hb7)
        go_roundw
        case rel => exact ⟨k + 1, by omega, by go_num, ⟨by rw [HCT.out]; exact H7.out.1⟩, ⟨H7.out.2⟩⟩
        case measure => simp [intOf]; omega
      · obtain ⟨s, rfl⟩ : ∃ s : Nat, es' = (s : Int) + 1 := ⟨(es' - 1).toNat, by omega⟩
        obtain ⟨off, rfl⟩ := Int.eq_ofNat_of_zero_le o3
        have hsA : s < A.length := by omega
        have hgA : A[s]? = some (A.getD s ⟨#[]⟩) := by rw [List.getD_eq_getElem?_getD, List.getElem?_eq_getElem hsA]; rfl
        have hx := HZ.out _ (List.mem_of_getElem? hgA)
        have hp := o6 hs0
        obtain ⟨b2, o2', rfl, hb2, hc2⟩ := HS.out s _ hgA
        have hv : valE A ((s : Int) + 1, (off : Int), (n : Int)) = ((A.getD s ⟨#[]⟩).data.toList.drop off).take n := by
          unfold valE
          rw [if_neg (show ¬ ((s : Int) + 1) = 0 by omega)]
          simp only [Int.toNat_natCast]
          rw [show ((s : Int) + 1).toNat - 1 = s by omega]
        rw [show ((s : Int) + 1).toNat - 1 = s by omega] at hp
        rw [hv] at HCT
        generalize A.getD s ⟨#[]⟩ = x at *
        have d3 := (HW.out.cell (p := ⟨b2, o2' + s, none⟩) hb2).trans hc2
        have hlb2 : b2 < wr.heap.size := Nat.lt_of_lt_of_le hb2 HW.out.size
        have z0 : ¬ (s : Int) + 1 < 0 := by omega
        have z1 : ¬ (A.length : Int) < (s : Int) + 1 := by omega
        have z2 : (((s : Int) + 1) == 0) = false := by rw [beq_eq_false_iff_ne]; omega
        have z3 : (0 : Int) < (s : Int) + 1 := by omega
        have z4 : (s : Int) + 1 - 1 = s := by omega
        have z5 : (0 : Int) ≤ s := by omega
        have z6 : (s : Int) < A.length := by omega
        have z7 : ¬ (off : Int) < 0 := by omega
        have z8 : ¬ (x.size : Int) < (off : Int) := by omega
        have z9 : ¬ (x.size : Int) - (off : Int) < (n : Int) := by omega
        clear o1 o2 o3 o5 o6 hv hgA hc2 hs0
        go_upto_region 15 with (fail)
        have hb3 : Below wr.heap.size wr (wr.alloc (.cells #[.int .i64 ((s : Int) + 1), .int .i64 (off : Int), .int .i64 (n : Int)] 42)) := (Below.refl _ _).alloc (Nat.le_refl _) _
        have HB2 := Keep.mk (OwnB.below HB.out hb3)
        have HW2 := Keep.mk (HW.out.trans (hb3.mono HW.out.size))
        have hA3 : Arr (wr.alloc (.cells #[.int .i64 ((s : Int) + 1), .int .i64 (off : Int), .int .i64 (n : Int)] 42)) wr.heap.size 42 (extV ((s : Int) + 1, (off : Int), (n : Int))) := Arr.new wr _ _
        have e0 := hA3.cell 0
        have e1 := hA3.cell 1
        have e2 := hA3.cell 2
        have el := hA3.lt
        simp only [extV, List.getElem?_cons_zero, List.getElem?_cons_succ] at e0 e1 e2
        have e3 := (hb3.cell (p := ⟨b2, o2' + s, none⟩) hlb2).trans d3
        have el2 : b2 < (wr.alloc (.cells #[.int .i64 ((s : Int) + 1), .int .i64 (off : Int), .int .i64 (n : Int)] 42)).heap.size := Nat.lt_of_lt_of_le hlb2 hb3.size
        generalize (wr.alloc (.cells #[.int .i64 ((s : Int) + 1), .int .i64 (off : Int), .int .i64 (n : Int)] 42)) = w2 at *
        generalize wr.heap.size = X at *
        have y1 : (0 : Int) ≤ off := by omega
        have y2 : (off : Int) ≤ (off : Int) + (n : Int) := by omega
        have y3 : (off : Int) + (n : Int) ≤ (x.size : Int) := by omega
        have q1 : IntKind.i64.wrap ((s : Int) + 1 - 1) = (s : Int) := by rw [z4]; exact IntWalk.i64_in _ (by omega)
        have q2 : IntKind.i64.wrap ((off : Int) + (n : Int)) = (off : Int) + (n : Int) := IntWalk.i64_in _ (by omega)
        have q3 : IntKind.i64.wrap (s : Int) = (s : Int) := IntWalk.i64_in _ (by omega)
        clear hA3 hb3 HB
        go_still_tail 15, (by kernel_rfl)
        change wpList _ _ _ _ _ w2.drew
        have HB4 : Keep (OwnB w.heap.size w2.drew (.slice u1 m u2) (catE A (List.take k es))) := HB2
        have HW4 := Keep.mk HW2.out.drew
        clear HB2 HW2 e0 e1 e2 e3 el el2 q1 q2 q3 y1 y2 y3 z0 z1 z2 z3 z4 z5 z6 z7 z8 z9 d0 d1 d2 d3
        generalize w2.drew = w3 at *
        have htn : ((off : Int) + (n : Int)).toNat = off + n := by omega
        have hex : (x.extract off ((off : Int) + (n : Int)).toNat).data.toList = (x.data.toList.drop off).take n := by
          rw [htn]; simp [List.extract_eq_take_drop]
        have HEX := Keep.mk hex
        have hxs : (x.extract off ((off : Int) + (n : Int)).toNat).size ≤ n := by rw [htn]; simp [ByteArray.size_extract]; omega
        clear htn
        clear hex
        go_wp2_with (at_builtin; go_must (refine wpList_append_textB (w0 := w) rfl _ _ rfl rfl HB4.out HW4.out rfl (by rw [HCL.out]; omega) ?_); intro v7 w7 ho7 hb7; have H7 := Keep.mk (And.intro ho7 hb7); clear ho7 hb7)
        go_roundw
        case rel => exact ⟨k + 1, by omega, by go_num, ⟨by rw [HCT.out, ← HEX.out]; exact H7.out.1⟩, ⟨H7.out.2⟩⟩
        case measure => simp [intOf]; omega
    · have hke : k = es.length := by omega
      subst hke
      rw [List.take_length] at HB
      have hcv := OwnB.run HB.out
      go_wp2
      go_ret2
      exact ⟨rfl, HW.out⟩
end Go.Proofs.Ytomlknjpaielgaa
