/- plainframe.digits' formatting closure. Condition: the table of powers of ten lies. -/
import Derived.Test.YtojgopbaiflfgaaGreatDoorTpDigits
import Derived.Test.YtojgopbaiflfgaaGreatDoorRepeat
namespace Go.Proofs.YtojgopbaiflfgaaGreatDoor
set_option maxRecDepth 100000
open Go.RowKit Go.Shelf

/-- A number in at least n decimal digits. -/
def padD (n u : Nat) : List UInt8 := List.replicate (n - (Lib.decDigits u).length) 48 ++ Lib.decDigits u
theorem decDigits_le (u : Nat) (hu1 : 1 ≤ u) (hu64 : u < 18446744073709551616) : (Lib.decDigits u).length ≤ 20 := by
  rw [Lib.decDigits_length]
  have := Lib.numDigits_eq u hu1 hu64
  split at this <;> omega
set_option maxHeartbeats 1000000 in
theorem format_any (n u B : Nat) (hn : n ≤ 20) (hu64 : u < 18446744073709551616) (w : World) (htab : Tab w) (hB : w.cell? ⟨B, 0, none⟩ = some (.int .i64 n)) (hBl : B < w.heap.size) :
    Calls Tryz.prog 50 #[.int .u64 u, .pointer (some ⟨B, 0, none⟩)] w fun e w' => e = .returned (.string (mkS (padD n u))) ∧ Below w.heap.size w w' := by
  have HF := Keep.mk (fmtUint_any u hu64 w htab)
  have hd : (Lib.decDigits u).length ≤ 20 := by
    by_cases h : 1 ≤ u
    · exact decDigits_le u h hu64
    · obtain rfl : u = 0 := by omega
      rw [Lib.decDigits_length, Lib.nDigits_small (by omega)]
      decide
  clear htab
  go_enter Tryz.func50, Tryz.ntmps50
  go_wp2_with fail
  refine HF.out.mono ?_
  rintro _ w2 ⟨rfl, hb2⟩
  have c2 := (hb2.cell (p := ⟨B, 0, none⟩) hBl).trans hB
  have l2 : B < w2.heap.size := Nat.lt_of_lt_of_le hBl hb2.size
  have HB2 := Keep.mk hb2
  clear hb2 hB hBl HF
  go_wp2_with fail
  have h0 : (0 : Int) ≤ max 0 ((n : Int) - (Lib.decDigits u).length) := by omega
  have HE : Keep (Lib.repeatL [48] (max 0 ((n : Int) - (Lib.decDigits u).length)).toNat ++ Lib.decDigits u = padD n u) := ⟨by
    unfold padD
    rw [repeatL_flatten, show (max 0 ((n : Int) - (Lib.decDigits u).length)).toNat = n - (Lib.decDigits u).length by omega]
    congr 1
    generalize n - (Lib.decDigits u).length = k
    induction k with
    | zero => rfl
    | succ k ih => rw [List.replicate_succ, List.flatten_cons, ih, List.replicate_succ]; rfl⟩
  refine (repeat_any ⟨#[48]⟩ _ w2 h0 (by show 1 * _ ≤ _; omega) (by omega)).mono ?_
  rintro _ w3 ⟨rfl, hb3⟩
  have HB3 := Keep.mk (HB2.out.trans (hb3.mono HB2.out.size))
  clear hb3 h0
  have hR : (mkS (Lib.repeatL [48] (max 0 ((n : Int) - (Lib.decDigits u).length)).toNat)).size ≤ 40 := by
    have h := congrArg List.length HE.out
    unfold padD at h
    rw [List.length_append, List.length_append, List.length_replicate] at h
    show (Lib.repeatL [48] _).toArray.size ≤ 40
    rw [List.size_toArray]
    omega
  have hD : (⟨(Lib.decDigits u).toArray⟩ : ByteArray).size ≤ 20 := by
    show (Lib.decDigits u).toArray.size ≤ 20
    rw [List.size_toArray]
    exact hd
  have HQ : Keep (mkS (Lib.repeatL [48] (max 0 ((n : Int) - (Lib.decDigits u).length)).toNat) ++ ⟨(Lib.decDigits u).toArray⟩ = mkS (padD n u)) := ⟨by
    rw [← HE.out]
    unfold mkS
    apply ByteArray.ext
    rw [ByteArray.data_append]
    simp⟩
  generalize mkS (Lib.repeatL [48] (max 0 ((n : Int) - (Lib.decDigits u).length)).toNat) = R at *
  generalize (⟨(Lib.decDigits u).toArray⟩ : ByteArray) = D at *
  go_wp2_with fail
  go_ret
  exact ⟨by rw [← HQ.out]; rfl, HB3.out⟩
end Go.Proofs.YtojgopbaiflfgaaGreatDoor
