/- Bytes as cells. Condition: bounds on lengths. -/
import Derived.Test.YtojgopbaiflfgaaGreatDoorBuilderByte
import Derived.Test.YtojgopbaiflfgaaGreatDoorTpSync
namespace Go.Proofs.YtojgopbaiflfgaaGreatDoor
set_option maxRecDepth 100000
open Go.RowKit Go.Shelf

/-- The k-th cell of a byte. -/
def bitC (b : UInt8) (k : Nat) : UInt8 := UInt8.ofNat (48 + b.toNat / 2 ^ (7 - k) % 2)
def cellsB (b : UInt8) : List UInt8 := (List.range 8).map (bitC b)
def cellsL (l : List UInt8) : List UInt8 := l.flatMap cellsB
theorem cellsB_length (b : UInt8) : (cellsB b).length = 8 := by simp [cellsB]
theorem cellsL_length (l : List UInt8) : (cellsL l).length = 8 * l.length := by
  induction l with
  | nil => rfl
  | cons b l ih => unfold cellsL at *; rw [List.flatMap_cons, List.length_append, ih, cellsB_length, List.length_cons]; omega
theorem cellsL_step {l : List UInt8} {k : Nat} {b : UInt8} (h : l[k]? = some b) : cellsL (l.take (k + 1)) = cellsL (l.take k) ++ cellsB b := by
  unfold cellsL
  rw [List.take_add_one, h, Option.toList_some, List.flatMap_append]
  simp
theorem cellsB_step (b : UInt8) (j : Nat) (h : j < 8) : (cellsB b).take (j + 1) = (cellsB b).take j ++ [bitC b j] := by
  have hj : (cellsB b)[j]? = some (bitC b j) := by
    unfold cellsB
    rw [List.getElem?_map, List.getElem?_range h]
    rfl
  rw [List.take_add_one, hj, Option.toList_some]
theorem bitC_toNat (b : UInt8) (j : Nat) : (bitC b j).toNat = 48 + b.toNat / 2 ^ (7 - j) % 2 := by
  unfold bitC
  rw [UInt8.toNat_ofNat']
  omega
theorem bit_value (b : UInt8) (j : Nat) : ((48 : Int) + bits .and .u8 ((b.toNat : Int) / 2 ^ (7 - j)) 1) % 256 = ((bitC b j).toNat : Int) := by
  have hb := b.toNat_lt
  have h1 : ((b.toNat : Int) / 2 ^ (7 - j)) = ((b.toNat / 2 ^ (7 - j) : Nat) : Int) := by simp
  have h2 : b.toNat / 2 ^ (7 - j) < 256 := Nat.lt_of_le_of_lt (Nat.div_le_self _ _) hb
  have h3 := u8_and_nat (b.toNat / 2 ^ (7 - j)) 1 h2 (by decide)
  rw [Nat.and_one_is_mod] at h3
  rw [h1, show (1 : Int) = ((1 : Nat) : Int) from rfl, h3, bitC_toNat]
  omega
set_option maxHeartbeats 4000000 in
theorem fromBytes_any (s : ByteArray) (hs : s.size ≤ 1000000) (w : World) : Calls Tryz.prog 31 #[.string s] w fun e w' => e = .returned (.string (mkS (cellsL s.data.toList))) ∧ Below w.heap.size w w' := by
  have HB0 := Keep.mk (builder_fresh w)
  go_enter Tryz.func31, Tryz.ntmps31
  go_wp2_with fail
  go_loopw [8] (fun i wr => ∃ k : Nat, k ≤ s.size ∧ i = .int .i64 k ∧ Keep (Holds w.heap.size w.heap.size (cellsL (s.data.toList.take k)) wr ∧ Below w.heap.size w wr)) (fun i _ => s.size - (intOf i).toNat)
  case atStart => exact ⟨0, Nat.zero_le _, rfl, ⟨HB0.out, (Below.refl _ _).alloc (Nat.le_refl _) _⟩⟩
  case round =>
    obtain ⟨k, hk, rfl, HH⟩ := hrel
    clear HB0
    by_cases hlt : k < s.size
    · have k0 : (0 : Int) ≤ k := by omega
      have k1 : (k : Int) < s.size := by omega
      have hb : s.data.toList[k]? = some s[k] := by rw [List.getElem?_eq_getElem (by simpa using hlt)]; rfl
      have HN := Keep.mk (cellsL_step hb)
      have HLN : Keep ((cellsL (s.data.toList.take k)).length ≤ 8000000) := ⟨by rw [cellsL_length, List.length_take]; omega⟩
      clear hb
      generalize cellsL (s.data.toList.take k) = acc at *
      generalize wr = wo at *
      go_wp2_with fail
      go_loopw [11] (fun i wr => ∃ j : Nat, j ≤ 8 ∧ i = .int .i64 j ∧ Keep (Holds w.heap.size w.heap.size (acc ++ (cellsB s[k]).take j) wr ∧ Below w.heap.size w wr)) (fun i _ => 8 - (intOf i).toNat)
      case atStart => exact ⟨0, Nat.zero_le _, rfl, ⟨by rw [List.take_zero, List.append_nil]; exact HH.out.1, HH.out.2⟩⟩
      case round =>
        clear HH
        obtain ⟨j, hj, rfl, HH⟩ := hrel
        by_cases hlj : j < 8
        · have j0 : (0 : Int) ≤ j := by omega
          have j1 : (j : Int) < 8 := by omega
          have s1 : IntKind.i64.wrap (7 - (j : Int)) = 7 - j := IntWalk.i64_in _ (by omega)
          have s2 : (0 : Int) ≤ 7 - j := by omega
          have HNJ := Keep.mk (cellsB_step s[k] j hlj)
          have HLJ : Keep ((acc ++ (cellsB s[k]).take j).length + 1 ≤ 140737488355328) := ⟨by
            have := HLN.out
            rw [List.length_append, List.length_take, cellsB_length]
            omega⟩
          go_wp2_with fail
          refine (writeByte_any w.heap.size w.heap.size _ _ (bitC s[k] j) _ HH.out.1 HLJ.out HH.out.2.size (bit_value s[k] j)).mono ?_
          rintro e w5 ⟨rfl, h5, b5, _⟩
          have H5 := Keep.mk (And.intro h5 (HH.out.2.trans b5))
          clear h5 b5 HH
          go_wp2_with fail
          go_roundw
          case rel => exact ⟨j + 1, by omega, by go_num, ⟨by rw [HNJ.out, ← List.append_assoc]; exact H5.out.1, H5.out.2⟩⟩
          case measure => simp [intOf]; omega
        · obtain rfl : j = 8 := by omega
          have HE : Keep ((cellsB s[k]).take 8 = cellsB s[k]) := ⟨List.take_of_length_le (by rw [cellsB_length]; exact Nat.le_refl _)⟩
          go_wp2_with fail
          go_roundw
          case rel => exact ⟨k + 1, by omega, by go_num, ⟨by rw [HN.out, ← HE.out]; exact HH.out.1, HH.out.2⟩⟩
          case measure => simp [intOf]; omega
    · obtain rfl : k = s.size := by omega
      rw [List.take_of_length_le (by simp)] at HH
      go_wp2_with (go_at_call 17; refine (Tryz.Builder_String_any w.heap.size w.heap.size _ wr HH.out.1 HH.out.2.size).mono ?_; rintro e w5 ⟨rfl, hh5⟩; have b5 := hh5)
      go_ret
      exact ⟨rfl, HH.out.2.trans b5⟩
end Go.Proofs.YtojgopbaiflfgaaGreatDoor
