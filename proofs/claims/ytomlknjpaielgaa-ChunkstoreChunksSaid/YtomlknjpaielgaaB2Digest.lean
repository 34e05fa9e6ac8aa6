/- Digest and Sum of the reference. Condition: at most a million bytes. -/
import Derived.Test.YtomlknjpaielgaaB2Bytes
import Derived.Test.YtomlknjpaielgaaRegion
namespace Go.Proofs.Ytomlknjpaielgaa
set_option maxRecDepth 100000
open Go.RowKit Go.Shelf Go.Proofs.Ytomlknjpaielgaa.B2

/-- The state behind k blocks of the reference's loop, the last one with it. -/
def refState (s : List UInt8) (k : Nat) : List W := if k ≤ full s.length then state s k else final s
theorem refState_length (s : List UInt8) (k : Nat) : (refState s k).length = 8 := by
  unfold refState; split
  · exact state_length _ _
  · exact final_length _
theorem refState_step {s : List UInt8} {k : Nat} (h : k + 1 ≤ full s.length) : refState s (k + 1) = compress (refState s k) ((s.drop (64 * k)).take 64) (64 * k + 64) false := by
  unfold refState
  rw [if_pos h, if_pos (by omega)]
  rfl
theorem refState_last {s : List UInt8} {k : Nat} (h : k = full s.length) : refState s (k + 1) = compress (refState s k) (lastBlock s) s.length true := by
  unfold refState
  rw [if_neg (by omega), if_pos (by omega), h]
  rfl

/-- What is left: nothing once the loop is done. -/
def leftOf (d : Value) (n : Nat) : Nat := match d with | .bool true => 0 | _ => n
theorem leftOf_true (n : Nat) : leftOf (.bool true) n = 0 := rfl
theorem leftOf_false (n : Nat) : leftOf (.bool false) n = n := rfl
def strLen (v : Value) : Nat := match v with | .string s => s.size | _ => 0
theorem strLen_eq (s : ByteArray) : strLen (.string s) = s.size := rfl
/-- A block of the reference's loop, padded. -/
theorem refState_block {s : ByteArray} {k n m : Nat} (hk : k ≤ full s.size) (hn : n = 64 * k) (hm : m = min 64 (s.size - n)) :
    refState s.data.toList (k + 1) = compress (refState s.data.toList k) (((s.data.toList.drop n).take m) ++ List.replicate (64 - m) 0) (n + m) (decide (n + m = s.size)) := by
  have hl : s.data.toList.length = s.size := by simp
  subst hn
  by_cases h : 64 < (s.size : Int) - 64 * k
  · have hk1 := full_more h
    have hm' : m = 64 := by omega
    have hd : decide (64 * k + m = s.size) = false := decide_eq_false (by omega)
    rw [refState_step (by rw [hl]; exact hk1), hd, hm']
    simp
  · have hkf := full_done h hk
    have h64 := full_le hk
    have hm' : m = s.size - 64 * k := by omega
    have hd : decide (64 * k + m = s.size) = true := decide_eq_true (by omega)
    rw [refState_last (by rw [hl]; exact hkf), hd]
    have e1 : (s.data.toList.drop (64 * k)).take m = s.data.toList.drop (64 * k) := List.take_of_length_le (by rw [List.length_drop, hl]; omega)
    have e2 : lastBlock s.data.toList = s.data.toList.drop (64 * k) ++ List.replicate (64 - m) 0 := by rw [lastBlock, hl, ← hkf, hm']
    rw [e1, e2, show 64 * k + m = s.size by omega, hl]

/-- v is no slice yet, or one of the call's own that holds the bytes l. -/
def AccBytes (w0 w : World) (v : Value) (l : List UInt8) : Prop := (v = .slice none 0 0 ∧ l = []) ∨ OwnBytes w0 w v l
theorem AccBytes.owns {w0 w : World} {v : Value} {l : List UInt8} (h : AccBytes w0 w v l) : w.ownsRow w0.heap.size 5 1 v l.length (Lib.byteCells l) := by
  rcases h with ⟨rfl, rfl⟩ | ⟨g, cap, _, hown⟩
  · exact World.ownsRow_nil _ _ _ _
  · exact hown
theorem AccBytes.own {w0 w : World} {v : Value} {l : List UInt8} (h : AccBytes w0 w v l) (hne : l ≠ []) : OwnBytes w0 w v l := by
  rcases h with ⟨_, rfl⟩ | h
  · exact absurd rfl hne
  · exact h
theorem Arr.not_acc {w0 w : World} {H : Nat} {xs : List Value} {v : Value} {l : List UInt8} (hA : Arr w H 78 xs) (h : AccBytes w0 w v l) : some H ≠ v.ownBlock := by
  rcases h with ⟨rfl, rfl⟩ | ⟨g, cap, rfl, hown⟩
  · intro e; cases e
  · intro e
    have e' : H = g := by simpa [Value.ownBlock] using e
    subst e'
    rcases hown.2 with ⟨hv, _⟩ | ⟨g', cap', cur, hv, _, hh, _⟩
    · cases hv
    · simp only [Value.slice.injEq, Option.some.injEq, Addr.mk.injEq] at hv
      obtain ⟨⟨rfl, _⟩, _⟩ := hv
      have h2 : w.heap[H]? = some (.cells xs.toArray 78 (0, 0)) := hA
      rw [hh] at h2
      simp only [Option.some.injEq, Obj.cells.injEq] at h2
      exact absurd h2.2.1 (by decide)
theorem wpList_append_acc {w0 wr : World} {ops : Array Oper} {rest : List Oper} {o : Oper} {a : Act} {Q : Exit → Act → World → Prop} (hgd : o.guard = none) (s x : Operand) (ho : o.op = .call { callee := .builtin .append, args := #[s, x], argTypes := #[57, 57] })
    {v : Value} {l : List UInt8} (hs : a.eval s = v) (hacc : AccBytes w0 wr v l) (hbel : Below w0.heap.size w0 wr) {n : Int} {c : UInt8} (hc : n = (c.toNat : Int)) (hx : a.eval x = .slice (some ⟨wr.heap.size, 0, none⟩) 1 1) (hn : l.length ≤ 100000000)
    (h : ∀ v' w', OwnBytes w0 w' v' (l ++ [c]) → Below w0.heap.size w0 w' → wr.grownBy w' v.ownBlock → wpList Try.prog ops Q rest (a.put o.dst v') w') : wpList Try.prog ops Q (o :: rest) a (wr.alloc (.cells #[.int .u8 n] 5)) := by
  subst hc
  obtain ⟨i0, hi, hz0, hz1, hz2⟩ := info_parts Try.infoByteB
  have hrow := hacc.owns
  have hsz := hbel.size
  refine wpList_append_own _ hgd s x 57 ho w0.heap.size 5 i0 (.int .u8 0) 1 1 Try.underlying57 hi hz0 hz1 hz2 rfl (by decide) _ _ _ hs (hrow.alloc _) ⟨wr.heap.size, 0, none⟩ 1 1 [.int .u8 (c.toNat : Int)] hx rfl (cell_one_new _ _ _) (by simp [Value.oneCell']) (by unfold maxLen; omega) (by omega) (by simp; omega) ?_
  intro v' w' hown' hgrow _
  obtain ⟨g', cap', rfl⟩ := ownsRow_succ hown'
  have hcb : Lib.byteCells (l ++ [c]) = Lib.byteCells l ++ [.int .u8 (c.toNat : Int)] := by simp [Lib.byteCells]
  have hl : (l ++ [c]).length = l.length + 1 := by simp
  exact h _ w' ⟨g', cap', by rw [hl], by rw [hl, hcb]; exact hown'⟩ ((hbel.alloc hsz _).grown hgrow (by simp; omega) (fun k hk => (hrow.lt k hk).1)) ((World.grownBy_alloc wr _ v.ownBlock).trans hgrow)
theorem flat_get (z : List W) {q r : Nat} (hq : q < z.length) (hr : r < 4) : (z.flatMap bytes4)[4 * q + r]? = some (UInt8.ofNat ((z.getD q 0).toNat / 2 ^ (8 * r))) := by
  induction z generalizing q with
  | nil => simp at hq
  | cons x z ih =>
    rw [List.flatMap_cons]
    cases q with
    | zero =>
      rw [List.getElem?_append_left (by simp [bytes4]; omega)]
      rcases r with _ | _ | _ | _ | r
      · simp [bytes4]
      · simp [bytes4]
      · simp [bytes4]
      · simp [bytes4]
      · omega
    | succ q =>
      rw [List.getElem?_append_right (by simp [bytes4]; omega)]
      rw [show 4 * (q + 1) + r - (bytes4 x).length = 4 * q + r by simp [bytes4]; omega]
      rw [ih (by simpa using hq)]
      rfl
theorem refDone {n k m s : Nat} (hk : k ≤ full s) (h : n = 64 * k ∧ m = min 64 (s - n)) : n + m = s ↔ k + 1 = full s + 1 := by
  have := full_le hk
  unfold full at *
  omega
theorem refNext {n k m s : Nat} (h : n = 64 * k ∧ m = min 64 (s - n)) (h1 : k + 1 ≤ full s) : n + m = 64 * (k + 1) := by
  unfold full at *
  omega
theorem refCompress_to (h : List W) (hh : h.length = 8) (s : ByteArray) (hs : s.size = 64) (count : Nat) (hc : count < 18446744073709551616) (last : Bool) (w : World) (c : Int) (hcc : c = (count : Int)) :
    Calls Try.prog 60 #[.agg (wvs h).toArray, .string s, .int .u64 c, .bool last] w fun e w' =>
      e = .returned (.tuple #[.agg (wvs (compress h s.data.toList count last)).toArray, .int .i64 0]) ∧ Below w.heap.size w w' := by
  subst hcc; exact refCompress_any h hh s hs count hc last w

set_option maxRecDepth 100000 in
set_option maxHeartbeats 8000000 in
theorem digest_any (s : ByteArray) (hsz : s.size ≤ 1000000) (w : World) :
    Calls Try.prog 45 #[.string s] w fun e w' => e = .returned (.string (mkS (digest s.data.toList))) ∧ Below w.heap.size w w' := by
  go_enter Try.func45, Try.ntmps45
  go_wp2_with fail
  refine (refInitial_any w).mono ?_
  rintro e w2 ⟨rfl, hb2⟩
  have HB2 := Keep.mk hb2
  clear hb2
  go_upto_region 2 with (refine wpList_store_arr (o := ⟨none, _, _, _, _, _⟩) rfl 78 _ _ rfl w2.heap.size _ (wvs (zeros 8)) (wvs iv) rfl rfl (Arr.new w2 _ (wvs (zeros 8))) Try.info8 rfl (wvs_one _) ?_; intro w3 hA3 hg3; have H3 := Keep.mk ((HB2.out.alloc HB2.out.size _).grown hg3 (by have := HB2.out.size; simp; omega) (fun _ h => by cases h; exact HB2.out.size)); have HD := HB2.out.size; have A3 := Keep.mk hA3; clear hg3 hA3 HB2)
  generalize w2.heap.size = H at *
  clear w2
  have c0 := A3.out.word (i := 0) (by decide)
  have f0 := A3.out.frozen 0
  have hx : bits .xor .u32 (W32 (iv.getD 0 0)) 16842784 = W32 (iv.getD 0 0 ^^^ 0x01010020#32) := by rw [← xor_W32]; rfl
  have A4 := Keep.mk (A3.out.setW 0 (iv.getD 0 0 ^^^ 0x01010020#32))
  have H4 := Keep.mk (H3.out.setCell (p := ⟨H, 0, none⟩) HD (.int .u32 (W32 (iv.getD 0 0 ^^^ 0x01010020#32))))
  rw [show iv.set 0 (iv.getD 0 0 ^^^ 0x01010020#32) = refState s.data.toList 0 from rfl] at A4
  generalize iv.getD 0 0 = z0 at *
  clear A3 H3
  go_wp2_with fail
  go_loopw [4, 5] (fun i d wr => ∃ (k n : Nat) (b : Bool), k ≤ full s.size + 1 ∧ i = .int .i64 n ∧ d = .bool b ∧ (b = decide (k = full s.size + 1)) ∧ (k ≤ full s.size → n = 64 * k) ∧ Arr wr H 78 (wvs (refState s.data.toList k)) ∧ Below w.heap.size w wr) (fun i d _ => leftOf d (s.size + 1 - (intOf i).toNat))
  case atStart => exact ⟨0, 0, false, by omega, rfl, rfl, by simp, by simp, A4.out, H4.out⟩
  case round =>
    obtain ⟨k, n, b, hk, rfl, rfl, hbk, hnk, hA, hB⟩ := hrel
    clear A4 H4 c0 f0 hx
    have HA := Keep.mk (And.intro hA hB)
    clear hA hB
    cases b with
    | false =>
      have hkf : k ≤ full s.size := by
        have := of_decide_eq_false hbk.symm
        omega
      have hn := hnk hkf
      have h64 := full_le hkf
      obtain ⟨m, hm⟩ : ∃ m, m = min 64 (s.size - n) := ⟨_, rfl⟩
      have HB := Keep.mk (refState_block hkf hn hm)
      have hsub : IntKind.i64.wrap ((s.size : Int) - (n : Int)) = (s.size : Int) - (n : Int) := IntWalk.i64_in _ (by omega)
      have HM := Keep.mk (And.intro hn hm)
      have hns : n ≤ s.size := by omega
      have hm1 : (64 : Int) < (s.size : Int) - (n : Int) → (64 : Int) = m := by omega
      have hm2 : ¬ (64 : Int) < (s.size : Int) - (n : Int) → (s.size : Int) - (n : Int) = m := by omega
      have hm64 : m ≤ 64 := by omega
      have hnm : n + m ≤ s.size := by omega
      have HM1 := Keep.mk (And.intro hm1 hm2)
      have HN := Keep.mk (And.intro hn hm)
      clear hbk hnk hn h64 hm hk hm1 hm2
      go_upto_if 22 with fail
      go_cut [6] from 15 to 49 (fun v wx => v = .int .i64 m ∧ wx = wr)
      case first =>
        by_cases h : (64 : Int) < (s.size : Int) - (n : Int)
        · go_wp2
          go_meet
          exact ⟨congrArg (Value.int .i64) (HM1.out.1 h), rfl⟩
        · go_wp2
          go_meet
          exact ⟨congrArg (Value.int .i64) (HM1.out.2 h), rfl⟩
      case rest =>
      obtain ⟨rfl, rfl⟩ := hcut
      have b0 : (0 : Int) ≤ n := by omega
      have b1 : (n : Int) ≤ (n : Int) + (m : Int) := by omega
      have b2 : (0 : Int) ≤ (n : Int) + (m : Int) := by omega
      have b3 : (n : Int) + (m : Int) ≤ (s.size : Int) := by omega
      have b4 : ((n : Int) + (m : Int)).toNat = n + m := by omega
      have b5 : IntKind.i64.wrap ((n : Int) + (m : Int)) = (n : Int) + (m : Int) := IntWalk.i64_in _ (by omega)
      have hpl : ((s.data.toList.drop n).take m).length = m := by
        have hl : s.data.toList.length = s.size := by simp
        rw [List.length_take, List.length_drop, hl]; omega
      have hex : (s.extract n (n + m)).data.toList = (s.data.toList.drop n).take m := by rw [extract_list]; congr 1; omega
      have HX := Keep.mk (And.intro hpl hex)
      clear hpl hex HM HM1 hsub
      go_wp2_with fail
      generalize (s.data.toList.drop n).take m = pre at *
      go_loopw [7] (fun v wi => ∃ (b : ByteArray) (j : Nat), v = .string b ∧ b.data.toList = pre ++ List.replicate j 0 ∧ m + j ≤ 64 ∧ Keep (wi = wc)) (fun v _ => 64 - strLen v)
      case atStart => exact ⟨_, 0, rfl, by rw [HX.out.2]; simp, by omega, ⟨rfl⟩⟩
      case round =>
        obtain ⟨b, j, rfl, hb, hj, hw⟩ := hrel
        have hbs : b.size = m + j := by
          have h1 : b.data.toList.length = b.size := by simp
          rw [← h1, hb, List.length_append, HX.out.1, List.length_replicate]
        have HBB := Keep.mk hb
        clear hb
        by_cases hlt : b.size < 64
        · have hlt' : (b.size : Int) < 64 := by omega
          have hcat := fun (wx : World) => run_string_add_sum (P := Try.prog) wx b ⟨#[0]⟩ (by show b.size + 1 ≤ _; omega)
          have hb2 : (b ++ ⟨#[0]⟩).data.toList = pre ++ List.replicate (j + 1) 0 := by
            rw [List.replicate_succ', ← List.append_assoc, ← HBB.out]; simp
          have hbz : (b ++ ⟨#[0]⟩).size = b.size + 1 := by simp; rfl
          have HB2 := Keep.mk (And.intro hb2 hbz)
          clear hb2 hbz
          generalize b ++ ⟨#[0]⟩ = c at *
          go_wp2
          go_roundw
          case rel => exact ⟨c, j + 1, rfl, HB2.out.1, by omega, hw⟩
          case measure => rw [strLen_eq, strLen_eq, HB2.out.2]; omega
        · have hb64 : b.size = 64 := by omega
          have hjm : j = 64 - m := by omega
          have HBL : Keep (b.data.toList = pre ++ List.replicate (64 - m) 0) := ⟨by rw [HBB.out, hjm]⟩
          have hwe := hw.out
          rw [← hwe] at HA
          clear HBB hbs hj hjm hw
          clear hwe j
          generalize hdd : decide (n + m = s.size) = dl at *
          have hbe : ((n : Int) + (m : Int) == (s.size : Int)) = dl := by rw [← hdd, Bool.eq_iff_iff]; simp; omega
          have HDD := Keep.mk hdd
          clear hdd
          have hzl := refState_length s.data.toList k
          have hzl2 := refState_length s.data.toList (k + 1)
          rw [← HBL.out] at HB
          generalize refState s.data.toList k = z at *
          generalize hz2 : refState s.data.toList (k + 1) = z2 at *
          have HZ2 := Keep.mk hz2
          clear hz2
          have u0 : IntKind.u64.wrap ((n : Int) + (m : Int)) = (n : Int) + (m : Int) := by rw [IntKind.wrap_u64]; omega
          go_wp2_with (first
            | (with_reducible (show wpList _ _ _ (⟨some 42, _, _, _, _, _⟩ :: _) _ _); refine wpList_load_arr (o := ⟨some 42, _, _, _, _, _⟩) rfl 78 _ rfl H _ (wvs z) rfl HA.out.1 8 77 Try.underlying78 (by rw [wvs_length, hzl]; exact Try.info8) ?_)
            | (go_at_call 60; refine (refCompress_to z hzl b hb64 (n + m) (by omega) dl wr _ (by omega)).mono ?_; rintro e w6 ⟨rfl, hb6⟩; rw [← HB.out]; have hA6 := Keep.mk (HA.out.1.below hb6 HA.out.1.lt); have hB6 := Keep.mk (HA.out.2.trans (hb6.mono HA.out.2.size)); clear hb6 HA)
            | (with_reducible (show wpList _ _ _ (⟨none, _, _, _, _, _⟩ :: _) _ _); refine wpList_store_arr (o := ⟨none, _, _, _, _, _⟩) rfl 78 _ _ rfl H _ (wvs z) (wvs z2) rfl rfl hA6.out (by rw [wvs_length, hzl2]; exact Try.info8) (by rw [wvs_length, wvs_length, hzl, hzl2]) (wvs_one _) ?_; intro w7 hA7 hg7; have H7 := Keep.mk (And.intro hA7 (hB6.out.grown hg7 (by have := hA6.out.lt; omega) (fun _ h => by cases h; exact HD))); clear hA7 hg7 hA6 hB6))
          simp only [Act.put]
          clear hbe hzl hzl2 hb64 hlt
          go_roundw
          case rel => exact ⟨k + 1, n + m, dl, by omega, by go_num, rfl, by rw [← HDD.out]; exact decide_eq_decide.2 (refDone hkf HN.out), refNext HN.out, by rw [HZ2.out]; exact H7.out.1, H7.out.2⟩
          case measure =>
            rw [leftOf_false]
            cases dl with
            | true => rw [leftOf_true]; simp [intOf]; omega
            | false => rw [leftOf_false]; have := of_decide_eq_false HDD.out; have := HN.out; simp [intOf]; omega
    | true =>
      have hkf : k = full s.size + 1 := of_decide_eq_true hbk.symm
      clear hbk hnk hk
      have HZ := Keep.mk (show refState s.data.toList k = final s.data.toList from by unfold refState; rw [if_neg (by simp; omega)])
      rw [HZ.out] at HA
      clear HZ hkf
      have HFl := final_length s.data.toList
      generalize hfz : final s.data.toList = z2 at *
      have HFZ := Keep.mk hfz
      clear hfz
      go_wp2_with fail
      generalize hwo : wr = wo at *
      go_loopw [9, 8] (fun i v wr => ∃ j : Nat, j ≤ 32 ∧ i = .int .i64 j ∧ AccBytes w wr v ((z2.flatMap bytes4).take j) ∧ Arr wr H 78 (wvs z2) ∧ Below w.heap.size w wr) (fun i _ _ => 32 - (intOf i).toNat)
      case atStart => exact ⟨0, by omega, rfl, .inl ⟨rfl, rfl⟩, HA.out.1, HA.out.2⟩
      case round =>
        obtain ⟨j, hj, rfl, hO, hA, hB⟩ := hrel
        clear HA hwo wo
        have HOB := Keep.mk (And.intro hO (And.intro hA hB))
        clear hO hA hB
        by_cases hlt : j < 32
        · obtain ⟨q, hq⟩ : ∃ q, q = j / 4 := ⟨_, rfl⟩
          obtain ⟨r, hr⟩ : ∃ r, r = j % 4 := ⟨_, rfl⟩
          have hq8 : q < 8 := by omega
          have hr4 : r < 4 := by omega
          have HT : Keep ((z2.flatMap bytes4).take (j + 1) = (z2.flatMap bytes4).take j ++ [UInt8.ofNat ((z2.getD q 0).toNat / 2 ^ (8 * r))]) := ⟨by
            rw [List.take_add_one, show j = 4 * q + r by omega, flat_get z2 (by omega) hr4]; rfl⟩
          have i0 : (0 : Int) ≤ j := by omega
          have i1 : (j : Int) < 32 := by omega
          have q1 : (j : Int) / 4 = (q : Int) := by omega
          have q2 : (j : Int) % 4 = (r : Int) := by omega
          have q3 : (0 : Int) ≤ q := by omega
          have q4 : (q : Int) < 8 := by omega
          have q5 : (0 : Int) ≤ 8 * (r : Int) := by omega
          have q6 : 8 * (r : Int) < 32 := by omega
          have c0 := HOB.out.2.1.word (i := q) (by omega)
          have hal : ((z2.flatMap bytes4).take j).length ≤ 32 := by rw [List.length_take]; omega
          have hby : W32 (z2.getD q 0) / 2 ^ (8 * r) % 256 = ((UInt8.ofNat ((z2.getD q 0).toNat / 2 ^ (8 * r))).toNat : Int) := by
            rw [byte_of]; unfold W32; rw [Int.natCast_ediv, Int.natCast_pow]; rfl
          clear hq hr
          generalize z2.getD q 0 = x at *
          generalize (z2.flatMap bytes4).take j = acc at *
          generalize (UInt8.ofNat (x.toNat / 2 ^ (8 * r))) = c at *
          have hnot := Arr.not_acc HOB.out.2.1 HOB.out.1
          have HNo := Keep.mk hnot
          clear hnot
          go_wp2_with (at_builtin; refine wpList_append_acc (w0 := w) rfl (.tmp 54) (.tmp 65) rfl rfl HOB.out.1 HOB.out.2.2 (c := c) rfl rfl (by omega) ?_; intro v2 w9 hO2 hB2 hg2; rw [← HT.out] at hO2; have H9 := Keep.mk (And.intro hO2 (And.intro (HOB.out.2.1.kept hg2 HNo.out) hB2)); clear hO2 hB2 hg2 HOB HNo c0)
          go_roundw
          case rel => exact ⟨j + 1, by omega, by go_num, .inr H9.out.1, H9.out.2.1, H9.out.2.2⟩
          case measure => simp [intOf]; omega
        · have hj32 : j = 32 := by omega
          subst hj32
          have hfl : (z2.flatMap bytes4).length = 32 := by rw [flat4_length, HFl]
          rw [List.take_of_length_le (Nat.le_of_eq hfl)] at HOB
          have hrun := (HOB.out.1.own (by intro e; rw [e] at hfl; simp at hfl)).run
          clear hfl
          go_wp2
          go_ret
          exact ⟨by rw [digest, HFZ.out]; rfl, HOB.out.2.2⟩
end Go.Proofs.Ytomlknjpaielgaa
