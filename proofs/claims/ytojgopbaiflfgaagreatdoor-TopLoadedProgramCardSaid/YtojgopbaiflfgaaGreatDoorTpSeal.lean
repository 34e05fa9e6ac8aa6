/- plainframe.digits, its parsing closure, seal. Condition: the table of powers of ten lies; bounds. -/
import Derived.Test.YtojgopbaiflfgaaGreatDoorTpFormat
import Derived.Test.YtojgopbaiflfgaaGreatDoorStrOwn
import Derived.Lib.AtoiErrMem
import Derived.Deep.QuietTactic
import Derived.BigQuiet
namespace Go.Proofs.YtojgopbaiflfgaaGreatDoor
set_option maxRecDepth 100000
open Go.RowKit Go.Shelf Go.Proofs.YtojgopbaiflfgaaGreatDoor.B2

def fmtV (b : Nat) : Value := .func (.func 50) #[] #[.pointer (some ⟨b, 0, none⟩)]
theorem digits_any (n : Nat) (w : World) : Calls Tryz.prog 29 #[.int .i64 n] w fun e w' => e = .returned (.tuple #[fmtV w.heap.size, .func (.func 52) #[] #[]]) ∧ w' = w.alloc (.cells #[.int .i64 n] 3) := by
  have hmf : ∀ (fn : Fn) (first cap : Array Value) (w : World), (Instr.makeFunc fn first cap).run Tryz.prog w = .ok (.func fn first cap) w := fun _ _ _ _ => rfl
  go_enter Tryz.func29, Tryz.ntmps29
  go_wp2_with fail
  go_ret2
  exact ⟨rfl, rfl⟩
def cutD : ByteArray := ⟨#[48, 49, 50, 51, 52, 53, 54, 55, 56, 57]⟩
/-- Decimal digits, some of them. -/
def Digs (s : ByteArray) : Prop := ∀ c ∈ s.data.toList, 48 ≤ c.toNat ∧ c.toNat ≤ 57
theorem digs_cut {c : UInt8} (h : 48 ≤ c.toNat ∧ c.toNat ≤ 57) : c ∈ cutD.data.toList := by
  have : c = UInt8.ofNat c.toNat := by simp
  obtain ⟨m, hm⟩ : ∃ m, c.toNat = 48 + m := ⟨c.toNat - 48, by omega⟩
  have hm9 : m ≤ 9 := by omega
  rw [this, hm]
  have : ∀ m : Fin 10, UInt8.ofNat (48 + m.val) ∈ cutD.data.toList := by decide +kernel
  exact this ⟨m, by omega⟩
set_option maxHeartbeats 1000000 in
theorem parse_any (s : ByteArray) (w : World) (hs : s.size ≤ 1000000) (hd : Digs s) (u : Nat) (hu : Lib.parseUintB 64 s.data.toList = .ok u) :
    Calls Tryz.prog 52 #[.string s] w fun e w' => e = .returned (.tuple #[.int .u64 u, .bool true]) ∧ Below w.heap.size w w' := by
  have HT := Keep.mk (trim_all s cutD w (by omega) (by decide) (by decide) (by decide) (fun c hc => digs_cut (hd c hc)))
  have HP := Keep.mk (fun w => Tryz.strconv_ParseUint_10_at64_ok s (by omega) u hu w)
  go_enter Tryz.func52, Tryz.ntmps52
  go_wp2_with fail
  refine HT.out.mono ?_
  rintro _ w2 ⟨rfl, hb2⟩
  have HB2 := Keep.mk hb2
  clear hb2 HT
  go_wp2_with fail
  refine (HP.out _).mono ?_
  rintro _ w3 ⟨rfl, hw3⟩
  have HB3 : Keep (Below w2.heap.size w2 w3) := ⟨by
    rcases hw3 with rfl | rfl
    · exact Below.refl _ _
    · exact Lib.bytesWorld_below w2 _ s⟩
  have HBE := Keep.mk (HB2.out.trans (HB3.out.mono HB2.out.size))
  clear hw3 HB3
  go_wp2_with fail
  go_quiet (fail)
  have HBQ := Keep.mk (below_drewN HBE.out nq)
  go_wp2_with fail
  go_ret2
  exact ⟨rfl, HBQ.out⟩
def sealL (l : List UInt8) : List UInt8 := l ++ padD 10 (sumC l).toNat
set_option maxHeartbeats 1000000 in
theorem seal_any (s : ByteArray) (w : World) (hs : s.size ≤ 1000000) (htab : Tab w) :
    Calls Tryz.prog 32 #[.string s] w fun e w' => e = .returned (.string (mkS (sealL s.data.toList))) ∧ Below w.heap.size w w' := by
  have HTAB := Keep.mk htab
  clear htab
  go_enter Tryz.func32, Tryz.ntmps32
  go_wp2_with fail
  refine (digits_any 10 _).mono ?_
  rintro _ w2 ⟨rfl, rfl⟩
  unfold fmtV
  have hX := heap_alloc_new w (.cells #[.int .i64 ((10 : Nat) : Int)] 3)
  have hb2 : Below w.heap.size w (w.alloc (.cells #[.int .i64 ((10 : Nat) : Int)] 3)) := (Below.refl _ _).alloc (Nat.le_refl _) _
  have hsz : (w.alloc (.cells #[.int .i64 ((10 : Nat) : Int)] 3)).heap.size = w.heap.size + 1 := World.size_alloc ..
  go_upto_region 2 with (fail)
  rw [show ((10 : Nat) : Int) = 10 from rfl] at hX hb2 hsz
  generalize (w.alloc (.cells #[.int .i64 10] 3)) = w2 at *
  have HX := Keep.mk hX
  have hS : Strs (w2.alloc (.cells #[.string s] 9)) (.slice (some ⟨w2.heap.size, 0, none⟩) 1 1) [s] := Strs.made w2 [s] 9 (show (1 : Nat) ≤ maxLen by decide)
  have HC := Keep.mk (crcSum_any hS (by unfold maxLen; omega))
  have hb3 : Below w2.heap.size w2 (w2.alloc (.cells #[.string s] 9)) := (Below.refl _ _).alloc (Nat.le_refl _) _
  have HB3 := Keep.mk (hb2.trans (hb3.mono hb2.size))
  have HX3 := Keep.mk ((hb3.block w.heap.size (by omega)).trans hX)
  clear hX hS hb2 hb3 hsz
  obtain ⟨C, hC⟩ : ∃ C, C = sumC s.data.toList := ⟨_, rfl⟩
  rw [← hC] at HC
  have hw : W32 C = (C.toNat : Int) := by unfold W32; rfl
  have hu32 : C.toNat < 4294967296 := C.isLt
  rw [hw] at HC
  have HU : Keep (C.toNat = (sumC s.data.toList).toNat) := ⟨by rw [hC]⟩
  clear hw hC
  generalize C.toNat = u at *
  go_wp2_with fail
  refine HC.out.mono ?_
  rintro _ w4 ⟨rfl, rfl⟩
  clear HC
  have HF := Keep.mk (format_any 10 u w.heap.size (by decide) (by omega) _ ((HTAB.out.below HB3.out)) (by simp [World.cell?, HX3.out]) (Array.getElem?_eq_some_iff.1 HX3.out).1)
  generalize (w2.alloc (.cells #[.string s] 9)) = w3 at *
  go_wp2_with fail
  refine HF.out.mono ?_
  rintro _ w5 ⟨rfl, hb5⟩
  have HB5 := Keep.mk (HB3.out.trans (hb5.mono HB3.out.size))
  clear hb5 HF
  have hR : (mkS (padD 10 u)).size ≤ 40 := by
    show (padD 10 u).toArray.size ≤ 40
    unfold padD
    have : (Lib.decDigits u).length ≤ 20 := by
      by_cases h : 1 ≤ u
      · exact decDigits_le u h (by omega)
      · obtain rfl : u = 0 := by omega
        rw [Lib.decDigits_length, Lib.nDigits_small (by omega)]
        decide
    rw [List.size_toArray, List.length_append, List.length_replicate]
    omega
  have HQ : Keep (s ++ mkS (padD 10 u) = mkS (sealL s.data.toList)) := ⟨by
    unfold sealL mkS
    rw [← HU.out]
    apply ByteArray.ext
    rw [ByteArray.data_append]
    simp⟩
  generalize mkS (padD 10 u) = R at *
  go_wp2_with fail
  go_ret
  exact ⟨by rw [← HQ.out]; rfl, HB5.out⟩
end Go.Proofs.YtojgopbaiflfgaaGreatDoor
