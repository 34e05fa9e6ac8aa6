/- The law Blake2sConcatenation: the digest has 32 bytes and does not depend on how the message is divided. No condition. -/
import Derived.Test.YtkklknfjakdpmaaB2Alive
import Derived.Test.YtkklknfjakdpmaaB2Great
import Derived.Test.YtkklknfjakdpmaaOpenStrs
import Derived.Test.YtkklknfjakdpmaaStrOwn
namespace Go.Proofs.Ytkklknfjakdpmaa
open Go.RowKit Go.Shelf Go.Proofs.Ytkklknfjakdpmaa.B2 Go.ChangeShapes Go.WideShapes Go.ChangeAt
open Go.ChangeMaps (open_string shut_string)

/-- A slice of 16-bit numbers in memory. -/
def U16s (w : World) (a : Option Addr) (n : Nat) : Prop := ∀ i, i < n → ∃ b o c, a = some ⟨b, o, none⟩ ∧ b < w.heap.size ∧ c < 65536 ∧ w.cell? ⟨b, o + i, none⟩ = some (.int .u16 (c : Nat))
theorem U16s.below {B : Nat} {w w' : World} {a : Option Addr} {n : Nat} (h : U16s w a n) (hb : Below B w w') (hB : w.heap.size ≤ B) : U16s w' a n := fun i hi => by
  obtain ⟨b, o, c, h1, h2, h3, h4⟩ := h i hi
  exact ⟨b, o, c, h1, Nat.lt_of_lt_of_le h2 hb.size, h3, (hb.cell (p := ⟨b, o + i, none⟩) (by simp; omega)).trans h4⟩
theorem open_u16s {H : Type} {enc : TypeId × Value → H} {W : World} {v : Value} {d : DataW H} {ps : List MemPlace} {r : Reach} {b0 : Nat} (hval : Value.okWide Try.prog W r b0 28 v)
    (hd : DataW.Trod enc Try.prog W 0 (fun _ => true) true 28 v d ps) : ∃ a n cap, v = .slice a n cap ∧ n ≤ cap ∧ cap ≤ maxLen ∧ U16s W a n := by
  obtain ⟨a, n, cap, D, sp, rfl, h1, h2, h3, h4⟩ := open_slice_cells Try.underlying28 (show Try.prog.cellsOf 29 = 1 by kernel_rfl) (by omega) hval hd
  refine ⟨a, n, cap, rfl, h1, h2, fun i hi => ?_⟩
  obtain ⟨b, o, cs, fuel, pl, rfl, hlt, hlen, hget, ht⟩ := h4 i hi
  obtain ⟨z, rfl, _, hw⟩ := DataW.trod_int Try.underlying29 ht
  have hn : 0 ≤ z ∧ z < 65536 := by
    simp only [Lit.wf, IntKind.min, IntKind.max, IntKind.signed, IntKind.bits] at hw
    simp at hw
    omega
  obtain ⟨c, rfl⟩ := Int.eq_ofNat_of_zero_le hn.1
  have := hget 0 (by omega)
  rw [Nat.mul_one, Nat.add_zero] at this
  exact ⟨b, o, c, rfl, hlt, by omega, this⟩
theorem cat_append (l m : List ByteArray) : cat (l ++ m) = cat l ++ cat m := by simp [cat]
theorem cat_one (x : ByteArray) : cat [x] = x.data.toList := by simp [cat]
theorem extract_parts (r : ByteArray) (k : Nat) : (r.extract 0 k).data.toList ++ (r.extract k r.size).data.toList = r.data.toList := by
  rw [extract_take, extract_drop, data_mkS, data_mkS, List.take_append_drop]

set_option maxRecDepth 100000 in
set_option maxHeartbeats 2000000 in
theorem blake2sConcatenation_any {w : World} {s : ByteArray} {a : Option Addr} {n cap : Nat} (hc : n ≤ cap) (hm : cap ≤ maxLen) (hs : s.size ≤ maxLen) (hU : U16s w a n) :
    Calls Try.prog 4 #[.string s, .slice a n cap] w fun e w' => e = .returned (.bool true) ∧ Below w.heap.size w w' := by
  have HU := Keep.mk hU
  clear hU
  unfold maxLen at hm hs
  go_enter Try.func4, Try.ntmps4
  go_wp2_with fail
  refine (alive_any _).mono ?_
  rintro e w1 ⟨rfl, hb1⟩
  have U1 := Keep.mk (HU.out.below hb1 (Nat.le_refl _))
  have B1 := Keep.mk hb1
  clear hb1 HU
  by_cases hbig : 2000 < s.size
  · have hbig' : (2000 : Int) < (s.size : Int) := by omega
    go_wp2_with fail
    go_ret
    exact ⟨rfl, B1.out⟩
  have hbig' : ¬ (2000 : Int) < (s.size : Int) := by omega
  by_cases hmany : 20 < n
  · have hmany' : (20 : Int) < (n : Int) := by omega
    go_wp2_with fail
    go_ret
    exact ⟨rfl, B1.out⟩
  have hmany' : ¬ (20 : Int) < (n : Int) := by omega
  go_wp2_with fail
  go_loopw [7, 5, 6] (fun i p r wr => ∃ (j : Nat) (l : List ByteArray) (x : ByteArray), j ≤ n ∧ i = .int .i64 j ∧ l.length = j ∧ r = .string x ∧ cat l ++ x.data.toList = s.data.toList ∧ OwnStrs w1.heap.size wr p l ∧ Below w1.heap.size w1 wr) (fun i _ _ _ => n - (intOf i).toNat)
  case atStart => exact ⟨0, [], s, by omega, rfl, rfl, rfl, by simp [cat], OwnStrs.nil _ _, Below.refl _ _⟩
  case round =>
    obtain ⟨j, l, x, hj, rfl, hl, rfl, hcat, hO, hB⟩ := hrel
    have hxs : x.size ≤ 2000 := by
      have := congrArg List.length hcat
      simp at this
      omega
    have U2 := U1.out.below hB (Nat.le_refl _)
    have HO := Keep.mk (And.intro hO hB)
    have HC := Keep.mk hcat
    have HL := Keep.mk hl
    have hwz := hB.size
    clear hO hB hcat hl
    by_cases hlt : j < n
    · obtain ⟨b, o, c, rfl, hbw, hc16, hcell⟩ := U2 j hlt
      obtain ⟨k, hk⟩ : ∃ k, k = c % (x.size + 1) := ⟨_, rfl⟩
      have hkx : k < x.size + 1 := by rw [hk]; exact Nat.mod_lt _ (by omega)
      have hmod : (c : Int) % ((x.size : Int) + 1) = (k : Int) := by rw [hk]; simp
      clear U2 hk
      have k0 : (0 : Int) ≤ (k : Int) := by omega
      have k1 : (k : Int) ≤ (x.size : Int) := by omega
      have j0 : (0 : Int) ≤ (j : Int) := by omega
      have j1 : (j : Int) < (n : Int) := by omega
      have c0 : (0 : Int) ≤ (c : Int) := by omega
      have c1 : (c : Int) < 65536 := by omega
      go_wp2_with (at_builtin; refine wpList_append_ownstrs rfl _ _ rfl rfl (HO.out.1.alloc _) rfl (Strs.made _ [x.extract 0 k] 9 (show (1 : Nat) ≤ maxLen by decide)) (by rw [HL.out]; show j + 1 ≤ 1000000; omega) (by simp; omega) ?_; intro v5 w5 hO5 hB5)
      go_roundw
      case rel =>
        exact ⟨j + 1, l ++ [x.extract 0 k], x.extract k x.size, by omega, by go_num, by rw [List.length_append, HL.out]; rfl, rfl, by rw [cat_append, cat_one, List.append_assoc, extract_parts, HC.out], hO5, (HO.out.2.alloc hwz _).trans hB5⟩
      case measure => simp [intOf]; omega
    · have hjn : j = n := by omega
      subst hjn
      clear U2
      go_wp2_with (at_builtin; refine wpList_append_ownstrs rfl _ _ rfl rfl (HO.out.1.alloc _) rfl (Strs.made _ [x] 9 (show (1 : Nat) ≤ maxLen by decide)) (by rw [HL.out]; show j + 1 ≤ 1000000; omega) (by simp; omega) ?_; intro v5 w5 hO5 hB5; have H5 := Keep.mk (And.intro hO5.strs ((HO.out.2.alloc hwz _).trans hB5)); clear hO5 hB5 HO)
      have hcat5 : cat (l ++ [x]) = s.data.toList := by rw [cat_append, cat_one, HC.out]
      refine (sum_any H5.out.1 (by rw [List.length_append, HL.out]; show j + 1 ≤ 1000000; omega) (by rw [hcat5]; simp; omega)).mono ?_
      rintro e w6 ⟨rfl, hb6⟩
      rw [hcat5]
      have B6 := Keep.mk (B1.out.trans ((H5.out.2.trans (hb6.mono H5.out.2.size)).mono B1.out.size))
      obtain ⟨D, hD⟩ : ∃ D, D = mkS (digest s.data.toList) := ⟨_, rfl⟩
      have hD32 : D.size = 32 := by rw [hD, size_mkS, digest_length]
      have HD := Keep.mk hD
      rw [← hD]
      clear hcat5 hb6 H5 HC HL B1 U1 hD hwz hxs
      go_wp2_with fail
      refine (sum_any (l := [s]) (Strs.made w6 [s] 9 (show (1 : Nat) ≤ maxLen by decide)) (show (1 : Nat) ≤ 1000000 by decide) (by rw [cat_one]; simp; omega)).mono ?_
      rintro e w7 ⟨rfl, hb7⟩
      rw [cat_one, ← HD.out]
      have b67 := ((Below.refl w6.heap.size w6).alloc (Nat.le_refl _) (.cells (strCells [s]).toArray 9))
      have B7 := Keep.mk (B6.out.trans ((b67.trans (hb7.mono b67.size)).mono B6.out.size))
      clear b67 hb7 B6
      go_wp2_with fail
      refine (sum_any (l := [s]) (Strs.made w7 [s] 9 (show (1 : Nat) ≤ maxLen by decide)) (show (1 : Nat) ≤ 1000000 by decide) (by rw [cat_one]; simp; omega)).mono ?_
      rintro e w8 ⟨rfl, hb8⟩
      rw [cat_one, ← HD.out]
      have b78 := ((Below.refl w7.heap.size w7).alloc (Nat.le_refl _) (.cells (strCells [s]).toArray 9))
      have B8 := Keep.mk (B7.out.trans ((b78.trans (hb8.mono b78.size)).mono B7.out.size))
      clear b78 hb8 B7
      go_wp2_with fail
      go_ret
      exact ⟨by simp, B8.out⟩
theorem Blake2sConcatenation_walk : LawWalk 4 Try.f4 := by
  intro H enc W base args ds ps hval hA hsz
  rw [Try.params4] at hA hval hsz
  obtain ⟨v0, vs0, d0, ds0, p0, q0, hargs, rfl, rfl, h0, r0⟩ := trodAll_cons hA
  obtain ⟨v1, vs1, d1, ds1, p1, q1, rfl, rfl, rfl, h1, r1⟩ := trodAll_cons r0
  obtain ⟨rfl, rfl, rfl⟩ := trodAll_nil r1
  obtain rfl : args = #[v0, v1] := by cases args; simp_all
  obtain ⟨s, rfl, rfl, rfl, ws⟩ := open_string Try.underlying9 (hval 0 9 v0 rfl rfl) h0
  obtain ⟨a, n, cap, rfl, k1, k2, k3⟩ := open_u16s (hval 1 28 v1 rfl rfl) h1
  exact blake2sConcatenation_any k1 k2 (by simpa [maxLen] using ws) k3
end Go.Proofs.Ytkklknfjakdpmaa
namespace Go.Proofs.Ytkklknfjakdpmaa
open Go.ChangeShapes Go.WideShapes Go.ChangeAt Go.RowKit
set_option maxRecDepth 100000 in
theorem Blake2sConcatenation_lifted (os : Os) (started : os.Started) (H : Type) (enc : TypeId × Value → H) :
    ReturnsInHanded {} Try.checked os 4 .any (Rows.blake2sConcatenationSpec.pre6 enc Try.prog Try.f4 Rows.blake2sConcatenationRow.domain false) (Rows.blake2sConcatenationSpec.post enc Try.prog Try.f4 false true false false) := by
  refine returnsInHanded_of_change_sized (C := Try.checked) own started (by kernel_rfl) Try.func4
    (ChangeSpec.witness6 (enc := enc) (C := Try.checked) false ⟨#[], #[.string ⟨#[]⟩, .slice none 0 0], []⟩ 8 (by kernel_rfl) (by kernel_rfl) (by kernel_rfl) (by kernel_rfl)) ?_
  exact law_contract (by kernel_rfl) (by kernel_rfl) ⟨rfl, fun H ds h => by rw [Try.params4] at h; match ds, h with | [d0, d1], _ => rfl⟩ Blake2sConcatenation_walk
theorem Blake2sConcatenation_over : Rows.blake2sConcatenationRow.holds Try.pinned (OpenSpec.ofChange Rows.blake2sConcatenationSpec) :=
  OpenClaim.holds_of_wide 4 Try.f4 rfl rfl rfl rfl rfl rfl rfl ⟨rfl, rfl, rfl, rfl, rfl⟩ rfl rfl rfl rfl rfl (by kernel_rfl) Try.func4 (by kernel_rfl)
    (of_decide_eq_true (by kernel_rfl)) (by unfold Func.isWrapper; first | (rw [if_pos (by decide +kernel)]; kernel_rfl) | (rw [if_neg (by decide +kernel)]; exact ⟨rfl, rfl⟩))
    (fun os started H enc _ => Blake2sConcatenation_lifted os started H enc)
theorem Blake2sConcatenation_proved : Rows.Blake2sConcatenationSaid := Blake2sConcatenation_over
end Go.Proofs.Ytkklknfjakdpmaa
