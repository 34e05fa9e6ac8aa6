/- cells.ToBytes of the cells of bytes. Condition: bounds on lengths. -/
import Derived.Test.YtojgopbaiflfgaaGreatDoorTpCheck
namespace Go.Proofs.YtojgopbaiflfgaaGreatDoor
set_option maxRecDepth 100000
open Go.RowKit Go.Shelf

/-- The first k cells of a byte, as a number. -/
def topB (b : UInt8) (k : Nat) : Nat := b.toNat / 2 ^ (8 - k)
theorem topB_step (b : UInt8) (k : Nat) (h : k < 8) : topB b (k + 1) = topB b k * 2 + b.toNat / 2 ^ (7 - k) % 2 := by
  unfold topB
  obtain ⟨m, hm⟩ : ∃ m, 7 - k = m := ⟨_, rfl⟩
  rw [show 8 - (k + 1) = m by omega, show 8 - k = m + 1 by omega, hm, Nat.pow_succ, ← Nat.div_div_eq_div_mul]
  omega
theorem topB_lt (b : UInt8) (k : Nat) (h : k < 8) : topB b k * 2 < 256 := by
  unfold topB
  obtain ⟨m, hm⟩ : ∃ m, 8 - k = m + 1 := ⟨7 - k, by omega⟩
  rw [hm, Nat.pow_succ, Nat.mul_comm (2 ^ m) 2, ← Nat.div_div_eq_div_mul]
  have := b.toNat_lt
  have h2 : b.toNat / 2 / 2 ^ m ≤ b.toNat / 2 := Nat.div_le_self _ _
  omega
theorem topB_zero (b : UInt8) : topB b 0 = 0 := by
  unfold topB
  have := b.toNat_lt
  exact Nat.div_eq_of_lt this
theorem topB_all (b : UInt8) : topB b 8 = b.toNat := by unfold topB; simp
theorem cellsL_get {l : List UInt8} {i : Nat} {b : UInt8} (h : l[i]? = some b) {j : Nat} (hj : j < 8) : (cellsL l)[8 * i + j]? = some (bitC b j) := by
  induction l generalizing i with
  | nil => simp at h
  | cons x l ih =>
    unfold cellsL at *
    rw [List.flatMap_cons]
    cases i with
    | zero =>
      simp at h
      subst h
      rw [List.getElem?_append_left (by rw [cellsB_length]; omega)]
      unfold cellsB
      rw [Nat.mul_zero, Nat.zero_add, List.getElem?_map, List.getElem?_range hj]
      rfl
    | succ i =>
      rw [List.getElem?_append_right (by rw [cellsB_length]; omega), cellsB_length, show 8 * (i + 1) + j - 8 = 8 * i + j by omega]
      exact ih (by simpa using h)
theorem part_get {s : ByteArray} {l : List UInt8} (hs : s.data.toList = cellsL l) {i : Nat} {b : UInt8} (h : l[i]? = some b) {j : Nat} (hj : j < 8) (hz : j < (s.extract (8 * i) (8 * i + 8)).size) : (s.extract (8 * i) (8 * i + 8))[j] = bitC b j := by
  have h1 := cellsL_get h hj
  rw [← hs] at h1
  have h2 : (s.extract (8 * i) (8 * i + 8)).data.toList[j]? = some (bitC b j) := by
    rw [ByteArray.data_extract, Array.toList_extract]
    simp only [List.extract]
    rw [List.getElem?_take, if_pos (by omega), List.getElem?_drop]
    exact h1
  have h3 : (s.extract (8 * i) (8 * i + 8)).data.toList[j]? = some ((s.extract (8 * i) (8 * i + 8))[j]) := by rw [List.getElem?_eq_getElem (by simp only [Array.length_toList]; exact hz)]; rfl
  rw [h2] at h3
  exact (Option.some.inj h3).symm
theorem indexByte_none {l : List UInt8} {c : UInt8} (h : c ∉ l) : Lib.indexByte l c = -1 := by
  induction l with
  | nil => rfl
  | cons x l ih =>
    simp only [List.mem_cons, not_or] at h
    have := ih h.2
    unfold Lib.indexByte
    simp [this, Ne.symm h.1]
theorem or_one : ∀ t : Fin 128, (t.val * 2) ||| 1 = t.val * 2 + 1 := by decide +kernel
theorem or_value {t : Nat} (h : t * 2 < 256) : bits .or .u8 ((t : Int) * 2) 1 = ((t * 2 + 1 : Nat) : Int) := by
  have h1 : ((t : Int) * 2) = ((t * 2 : Nat) : Int) := by omega
  rw [h1, show (1 : Int) = ((1 : Nat) : Int) from rfl, u8_or_nat _ _ h (by decide), or_one ⟨t, by omega⟩]
set_option maxHeartbeats 8000000 in
theorem toBytes_any (s : ByteArray) (l : List UInt8) (hs : s.data.toList = cellsL l) (hl : l.length ≤ 1000000) (w : World) :
    Calls Tryz.prog 61 #[.string s] w fun e w' => e = .returned (.tuple #[.string (mkS l), .slice none 0 0, .int .i64 0]) ∧ Below w.heap.size w w' := by
  have hsz : s.size = 8 * l.length := by
    have := congrArg List.length hs
    rw [cellsL_length] at this
    simpa using this
  have hcl : Clear s := fun c hc => cellsL_clear (l := l) (by rw [← hs]; exact hc)
  have HC := Keep.mk (check_clear s w (by omega) hcl)
  have HS := Keep.mk hs
  have HCL := Keep.mk hcl
  have q1 : (Int.tmod (s.size : Int) 8 != 0) = false := by
    have h : Int.tmod (s.size : Int) 8 = 0 := by
      rw [Int.tmod_eq_emod_of_nonneg (by omega)]
      omega
    rw [h]
    rfl
  have q2 : Int.tdiv (s.size : Int) 8 = (l.length : Int) := by
    rw [Int.tdiv_eq_ediv_of_nonneg (by omega)]
    omega
  go_enter Tryz.func61, Tryz.ntmps61
  go_wp2_with fail
  refine HC.out.mono ?_
  rintro _ w1 ⟨rfl, hb1⟩
  have HB1 := Keep.mk hb1
  clear hb1 HC hs hcl
  have HB0 := Keep.mk (builder_fresh w1)
  have HW0 : Keep (Below w1.heap.size w1 (w1.alloc (.cells #[.pointer none, .slice none 0 0] 56))) := ⟨(Below.refl _ _).alloc (Nat.le_refl _) _⟩
  have HSZ := Keep.mk hsz
  have hsb : s.size ≤ 8000000 := by omega
  go_wp2_with fail
  clear q1 q2 hsz
  go_loopw [24, 7] (fun i s7 wr => ∃ k : Nat, k ≤ l.length ∧ i = .int .i64 k ∧ s7 = .slice none 0 0 ∧ Keep (Holds w1.heap.size w1.heap.size (l.take k) wr ∧ Below w1.heap.size w1 wr)) (fun i _ _ => l.length - (intOf i).toNat)
  case atStart => exact ⟨0, Nat.zero_le _, rfl, rfl, ⟨by rw [List.take_zero]; exact HB0.out, HW0.out⟩⟩
  case round =>
    clear HB0 HW0
    obtain ⟨k, hk, rfl, rfl, HH⟩ := hrel
    by_cases hlt : k < l.length
    · have k0 : (0 : Int) ≤ k := by omega
      have k1 : (k : Int) < l.length := by omega
      obtain ⟨b, hb⟩ : ∃ b, l[k]? = some b := ⟨_, List.getElem?_eq_getElem hlt⟩
      have m1 : IntKind.i64.wrap ((k : Int) * 8) = k * 8 := IntWalk.i64_in _ (by omega)
      have m2 : IntKind.i64.wrap (((k : Int) + 1) * 8) = (k + 1) * 8 := IntWalk.i64_in _ (by omega)
      have m3 : (0 : Int) ≤ (k : Int) * 8 := by omega
      have m4 : ((k : Int) + 1) * 8 ≤ s.size := by rw [HSZ.out]; omega
      have m5 : (k : Int) * 8 ≤ ((k : Int) + 1) * 8 := by omega
      have HBB := Keep.mk hb
      clear hb
      have hpt : s.extract (k * 8) ((k + 1) * 8) = s.extract (8 * k) (8 * k + 8) := by rw [Nat.mul_comm k 8, Nat.mul_comm (k + 1) 8, Nat.mul_add]
      have hps : (s.extract (k * 8) ((k + 1) * 8)).size = 8 := by rw [ByteArray.size_extract]; have := HSZ.out; omega
      have HPT : Keep (∀ (j : Nat) (_ : j < 8) (hz : j < (s.extract (k * 8) ((k + 1) * 8)).size), (s.extract (k * 8) ((k + 1) * 8))[j].toNat = 48 + b.toNat / 2 ^ (7 - j) % 2) := ⟨fun j hj hz => by
        rw [← bitC_toNat]
        congr 1
        have := part_get HS.out HBB.out hj (by rw [← hpt]; exact hz)
        rw [← this]
        congr 1⟩
      have HPC : Keep (Clear (s.extract (k * 8) ((k + 1) * 8))) := ⟨fun c hc => HCL.out c (extract_mem hc)⟩
      have HNX : Keep (l.take (k + 1) = l.take k ++ [b]) := ⟨by rw [List.take_add_one, HBB.out]; rfl⟩
      have HPS := Keep.mk hps
      clear hpt
      go_upto_region 12 with (fail)
      clear m1 m2 m3 m4 m5
      generalize s.extract (k * 8) ((k + 1) * 8) = pt at *
      have HT0 := Keep.mk (topB_zero b)
      generalize wr = wo at *
      go_wp2_with fail
      go_loopw [34, 10] (fun i s10 wr => ∃ j : Nat, j ≤ 8 ∧ i = .int .i64 j ∧ s10 = .int .u8 ((topB b j : Nat) : Int) ∧ Keep (wr = wo)) (fun i _ _ => 8 - (intOf i).toNat)
      case atStart => exact ⟨0, Nat.zero_le _, rfl, by rw [HT0.out]; rfl, ⟨rfl⟩⟩
      case round =>
        obtain ⟨j, hj, rfl, rfl, HWO⟩ := hrel
        by_cases hlj : j < 8
        · have j0 : (0 : Int) ≤ j := by omega
          have j1 : (j : Int) < 8 := by omega
          have j2 : (j : Int) < pt.size := by omega
          have j3 : j < pt.size := by omega
          have hbit := HPT.out j hlj j3
          have HSTP := Keep.mk (topB_step b j hlj)
          have HLT := topB_lt b j hlj
          have HOR := Keep.mk (or_value HLT)
          generalize topB b j = t at *
          by_cases hb1 : b.toNat / 2 ^ (7 - j) % 2 = 1
          · have q3 : ((pt[j].toNat : Int) == 49) = true := by rw [beq_iff_eq]; omega
            have HE : Keep (topB b (j + 1) = t * 2 + 1) := ⟨by rw [HSTP.out, hb1]⟩
            clear hb1 hbit
            go_wp2_with fail
            go_roundw
            case rel => exact ⟨j + 1, by omega, by go_num, by rw [HE.out, ← HOR.out], HWO⟩
            case measure => simp [intOf]; omega
          · have q3 : ((pt[j].toNat : Int) == 49) = false := by rw [beq_eq_false_iff_ne]; omega
            have HE : Keep (topB b (j + 1) = t * 2) := ⟨by rw [HSTP.out]; omega⟩
            clear hb1 hbit
            go_wp2_with fail
            go_roundw
            case rel => exact ⟨j + 1, by omega, by go_num, by rw [HE.out]; congr 1, HWO⟩
            case measure => simp [intOf]; omega
        · obtain rfl : j = 8 := by omega
          rw [topB_all]
          obtain rfl := HWO.out
          have HLN : Keep ((l.take k).length + 1 ≤ 140737488355328) := ⟨by rw [List.length_take]; omega⟩
          have HCO := Keep.mk (fun w => Tryz.strings_Contains_one pt 63 w)
          have hnc : decide (0 ≤ Lib.indexByte pt.data.toList 63) = false := decide_eq_false (by
            rw [indexByte_none (fun hm => by rcases HPC.out _ hm with e | e <;> exact absurd e (by decide))]
            decide)
          rw [hnc] at HCO
          clear hnc
          generalize l.take k = acc at *
          go_wp2_with fail
          refine (writeByte_any w1.heap.size w1.heap.size _ _ b _ HH.out.1 HLN.out HH.out.2.size rfl).mono ?_
          rintro e w5 ⟨rfl, h5, b5, _⟩
          have H5 := Keep.mk (And.intro h5 (HH.out.2.trans b5))
          clear h5 b5 HH
          go_wp2_with fail
          refine (HCO.out _).mono ?_
          rintro _ w6 ⟨rfl, rfl⟩
          go_wp2_with fail
          go_roundw
          case rel => exact ⟨k + 1, by omega, by go_num, rfl, ⟨by rw [HNX.out]; exact H5.out.1, H5.out.2⟩⟩
          case measure => simp [intOf]; omega
    · obtain rfl : k = l.length := by omega
      rw [List.take_length] at HH
      go_wp2_with (go_at_call 17; refine (Tryz.Builder_String_any w1.heap.size w1.heap.size _ wr HH.out.1 HH.out.2.size).mono ?_; rintro e w5 ⟨rfl, hh5⟩; have b5 := hh5)
      refine bodyPost_ret (v := .tuple #[.string (mkS l), .slice none 0 0, .int .i64 0]) (by simp [results, Tryz.results61, go_sem, mkS]) rfl ⟨rfl, HB1.out.trans ((HH.out.2.trans b5).mono HB1.out.size)⟩
end Go.Proofs.YtojgopbaiflfgaaGreatDoor
