/- Compress of the program: its state between two steps. No condition but the block's length. -/
import Derived.Test.YtomlknjpaielgaaB2Mix
import Derived.Test.YtomlknjpaielgaaB2Quads
import Derived.StillTailTactics
import Derived.Deep.QuietTactic
import Derived.BigQuiet
import Derived.Deep.DeepCutAuto
namespace Go.Proofs.Ytomlknjpaielgaa
set_option maxRecDepth 100000
open Go.RowKit Go.Shelf Go.Proofs.Ytomlknjpaielgaa.B2

/-- The four blocks of Compress between two steps: the state, the result, the words of the block, the vector. -/
structure Cs (w : World) (h : List W) (r : List W) (m v : List W) (wr : World) : Prop where
  ah : Arr wr w.heap.size 78 (wvs h)
  ar : Arr wr (w.heap.size + 1) 78 (wvs r)
  am : Arr wr (w.heap.size + 2) 99 (wvs m)
  av : Arr wr (w.heap.size + 3) 99 (wvs v)
  be : Below w.heap.size w wr
theorem Cs.lt {w wr : World} {h r m v : List W} (c : Cs w h r m v wr) : w.heap.size + 4 ≤ wr.heap.size := c.av.lt
theorem Cs.below {w wr w' : World} {h r m v : List W} (c : Cs w h r m v wr) (hb : Below wr.heap.size wr w') : Cs w h r m v w' := by
  have := c.lt
  exact ⟨c.ah.below hb (by omega), c.ar.below hb (by omega), c.am.below hb (by omega), c.av.below hb (by omega), c.be.trans (hb.mono (by omega))⟩
theorem Cs.drew {w wr : World} {h r m v : List W} (c : Cs w h r m v wr) : Cs w h r m v wr.drew := c.below (Below.refl _ _).drew
theorem Cs.drewN {w wr : World} {h r m v : List W} (c : Cs w h r m v wr) (n : Nat) : Cs w h r m v (wr.drewN n) := c.below (below_drewN (Below.refl _ _) n)
theorem Cs.alloc {w wr : World} {h r m v : List W} (c : Cs w h r m v wr) (o : Obj) : Cs w h r m v (wr.alloc o) := c.below ((Below.refl _ _).alloc (Nat.le_refl _) o)
theorem Cs.setM {w wr : World} {h r m v : List W} (c : Cs w h r m v wr) (i : Nat) (x : W) : Cs w h r (m.set i x) v (wr.setCell ⟨w.heap.size + 2, i, none⟩ (.int .u32 (W32 x))) :=
  ⟨c.ah.other (by simp) _, c.ar.other (by simp) _, c.am.setW i x, c.av.other (by simp) _, c.be.setCell (p := ⟨w.heap.size + 2, i, none⟩) (by simp) _⟩
theorem Cs.setV {w wr : World} {h r m v : List W} (c : Cs w h r m v wr) (i : Nat) (x : W) : Cs w h r m (v.set i x) (wr.setCell ⟨w.heap.size + 3, i, none⟩ (.int .u32 (W32 x))) :=
  ⟨c.ah.other (by simp) _, c.ar.other (by simp) _, c.am.other (by simp) _, c.av.setW i x, c.be.setCell (p := ⟨w.heap.size + 3, i, none⟩) (by simp) _⟩
theorem Cs.setH {w wr : World} {h r m v : List W} (c : Cs w h r m v wr) (i : Nat) (x : W) : Cs w (h.set i x) r m v (wr.setCell ⟨w.heap.size, i, none⟩ (.int .u32 (W32 x))) :=
  ⟨c.ah.setW i x, c.ar.other (by simp) _, c.am.other (by simp) _, c.av.other (by simp) _, c.be.setCell (p := ⟨w.heap.size, i, none⟩) (by simp) _⟩
theorem Cs.newV {w wr w' : World} {h r m v v' : List W} (c : Cs w h r m v wr) (hv : Arr w' (w.heap.size + 3) 99 (wvs v')) (hg : wr.grownBy w' (some (w.heap.size + 3))) : Cs w h r m v' w' :=
  ⟨c.ah.kept hg (by simp), c.ar.kept hg (by simp), c.am.kept hg (by simp), hv, c.be.grown hg (by have := c.lt; omega) (fun _ h => by cases h; omega)⟩

def zeros (n : Nat) : List W := List.replicate n 0#32
/-- The words of the block that are read so far. -/
def part (l : List UInt8) (k : Nat) : List W := (List.range k).map (word l) ++ zeros (16 - k)
theorem part_length (l : List UInt8) {k : Nat} (h : k ≤ 16) : (part l k).length = 16 := by simp [part, zeros]; omega
theorem part_full (l : List UInt8) : part l 16 = words l := by simp [part, zeros, words]
theorem part_step (l : List UInt8) {k : Nat} (h : k < 16) : (part l k).set k (word l k) = part l (k + 1) := by
  unfold part zeros
  rw [List.set_append_right _ _ (by simp)]
  obtain ⟨n, hn⟩ : ∃ n, 16 - k = n + 1 := ⟨15 - k, by omega⟩
  rw [hn, show 16 - (k + 1) = n from by omega, List.replicate_succ]
  simp [List.range_succ]
theorem byteW_int (s : ByteArray) (i : Nat) (h : i < s.size) : ((s[i]'h).toNat : Int) = W32 (byteW s.data.toList i) := by
  unfold W32 byteW
  rw [List.getD_eq_getElem?_getD, List.getElem?_eq_getElem (by simpa using h)]
  have : (s[i]'h) = s.data.toList[i]'(by simpa using h) := by simp; rfl
  rw [this]
  have hlt := (s.data.toList[i]'(by simpa using h)).toNat_lt
  rw [BitVec.toNat_ofNat, Nat.mod_eq_of_lt (by simp only [Option.getD_some]; omega)]
  rfl

theorem Try.infoU32 : (Try.prog.info? 77).map (·.size) = some 1 := by kernel_rfl
theorem Arr.src {w : World} {g : Nat} {t : TypeId} {xs : List Value} (h : Arr w g t xs) : ∀ j v, xs[j]? = some v → w.cell? ((⟨g, 0, none⟩ : Addr).add j) = some v := by
  intro j v hj
  have e : (⟨g, 0, none⟩ : Addr).add j = ⟨g, j, none⟩ := by
    rcases j with _ | j
    · rfl
    · simp [Addr.add]
  rw [e, h.cell]; exact hj
theorem count_W32 (n : Nat) : (n : Int) % 4294967296 = W32 (BitVec.ofNat 32 n) := by rw [← IntKind.wrap_u32, wrap_nat32]
theorem start_false (h : List W) (count : Nat) : B2.start h count false = (((h ++ iv).set 12 ((h ++ iv).getD 12 0 ^^^ BitVec.ofNat 32 count)).set 13 ((h ++ iv).getD 13 0 ^^^ BitVec.ofNat 32 (count / 4294967296))) := by
  simp [B2.start]
theorem start_true (h : List W) (count : Nat) : B2.start h count true = ((((h ++ iv).set 12 ((h ++ iv).getD 12 0 ^^^ BitVec.ofNat 32 count)).set 13 ((h ++ iv).getD 13 0 ^^^ BitVec.ofNat 32 (count / 4294967296)))).set 14 (4294967295#32 ^^^ (h ++ iv).getD 14 0) := by
  simp [B2.start]
theorem not_W32 (x : W) : bits .xor .u32 IntKind.u32.max (W32 x) = W32 (4294967295#32 ^^^ x) := by rw [← xor_W32]; rfl
theorem run_index_perm (r : Nat) (hr : r < 10) (w : World) : (Instr.index 101 (.agg permA) (.int .i64 r)).run Try.prog w = .ok (.int .u64 ((permL.getD r 0 : Nat) : Int)) w := by
  have hu : Try.prog.underlying 101 = some (.array 10 82) := Try.underlying101
  have hs : (Try.prog.info? 82).map (·.size) = some 1 := by kernel_rfl
  have hp : Try.prog.plainKey 82 = true := by kernel_rfl
  have h1 : (0 : Int) ≤ r := by omega
  have h2 : (r : Int) < 10 := by omega
  have hv : permA[r * 1]? = some (.int .u64 ((permL.getD r 0 : Nat) : Int)) := by
    rcases r with _ | _ | _ | _ | _ | _ | _ | _ | _ | _ | r
    case succ.succ.succ.succ.succ.succ.succ.succ.succ.succ => exact absurd hr (by omega)
    all_goals rfl
  have hc : Try.prog.cellsOf 82 = 1 := by kernel_rfl
  obtain ⟨i, hi, _⟩ := Option.map_eq_some_iff.1 hs
  have hso := run_sizeOf (w := w) hi
  have := run_part_plain (w := w) hp hv
  simp [Instr.index, asIntOf, run_underlying hu, hr, hso, hc]
  simpa using this
theorem run_index_quad (i : Nat) (hr : i < 8) (w : World) : (Instr.index 104 (.agg quadL.toArray) (.int .i64 i)).run Try.prog w = .ok (.agg #[.int .i64 (col i 0), .int .i64 (col i 1), .int .i64 (col i 2), .int .i64 (col i 3)]) w := by
  have hu : Try.prog.underlying 104 = some (.array 8 103) := Try.underlying104
  have hs : (Try.prog.info? 103).map (·.size) = some 4 := by kernel_rfl
  have hc : Try.prog.cellsOf 103 = 4 := by kernel_rfl
  obtain ⟨j, hj, _⟩ := Option.map_eq_some_iff.1 hs
  have hso := run_sizeOf (w := w) hj
  have h1 : (0 : Int) ≤ i := by omega
  have h2 : (i : Int) < 8 := by omega
  simp [Instr.index, asIntOf, run_underlying hu, hso, hc]
  rcases i with _ | _ | _ | _ | _ | _ | _ | _ | i
  case succ.succ.succ.succ.succ.succ.succ.succ => exact absurd hr (by omega)
  all_goals rfl
theorem sig_perm (r : Nat) (hr : r < 10) (i : Nat) (hi : i < 8) (e : Nat) (he : e = 60 - 8 * i) : bits .and .u64 (((permL.getD r 0 : Nat) : Int) / 2 ^ e) 15 = sig r (2 * i) := by
  subst he
  have : ∀ r, r < 10 → ∀ i, i < 8 → bits .and .u64 (((permL.getD r 0 : Nat) : Int) / 2 ^ (60 - 8 * i)) 15 = sig r (2 * i) := by decide +kernel
  exact this r hr i hi
theorem sig_perm' (r : Nat) (hr : r < 10) (i : Nat) (hi : i < 8) (e : Nat) (he : e = 56 - 8 * i) : bits .and .u64 (((permL.getD r 0 : Nat) : Int) / 2 ^ e) 15 = sig r (2 * i + 1) := by
  subst he
  have : ∀ r, r < 10 → ∀ i, i < 8 → bits .and .u64 (((permL.getD r 0 : Nat) : Int) / 2 ^ (56 - 8 * i)) 15 = sig r (2 * i + 1) := by decide +kernel
  exact this r hr i hi
theorem sig_lt (r : Nat) (hr : r < 10) (j : Nat) (hj : j < 16) : sig r j < 16 := by
  have : ∀ r, r < 10 → ∀ j, j < 16 → sig r j < 16 := by decide +kernel
  exact this r hr j hj
theorem four_col (i : Nat) (hi : i < 8) : Four (col i 0) (col i 1) (col i 2) (col i 3) := by
  rcases i with _ | _ | _ | _ | _ | _ | _ | _ | i
  case succ.succ.succ.succ.succ.succ.succ.succ => exact absurd hi (by omega)
  all_goals exact ⟨by decide, by decide, by decide, by decide, by decide, by decide, by decide, by decide, by decide, by decide⟩
/-- The state words that are combined so far. -/
def hpart (h v : List W) (k : Nat) : List W := (List.range k).map (fin h v) ++ h.drop k
theorem hpart_length {h v : List W} (hh : h.length = 8) {k : Nat} (hk : k ≤ 8) : (hpart h v k).length = 8 := by simp [hpart]; omega
theorem hpart_get {h v : List W} {k : Nat} : (hpart h v k).getD k 0 = h.getD k 0 := by
  simp [hpart, List.getD_eq_getElem?_getD, List.getElem?_append_right]
theorem hpart_step {h v : List W} (hh : h.length = 8) {k : Nat} (hk : k < 8) : (hpart h v k).set k (h.getD k 0 ^^^ (v.getD k 0 ^^^ v.getD (k + 8) 0)) = hpart h v (k + 1) := by
  unfold hpart
  rw [List.set_append_right _ _ (by simp)]
  have hk' : k < h.length := by omega
  rw [List.drop_eq_getElem_cons hk', List.range_succ]
  simp only [List.length_map, List.length_range, Nat.sub_self, List.set_cons_zero, List.map_append, List.map_cons, List.map_nil, List.append_assoc, List.cons_append, List.nil_append]
  rfl
theorem hpart_full (h v : List W) (hh : h.length = 8) : hpart h v 8 = (List.range 8).map (fin h v) := by
  unfold hpart
  rw [List.drop_eq_nil_of_le (by omega), List.append_nil]
theorem mod_W32 (x : W) : W32 x % 4294967296 = W32 x := by have := W32_lo x; have := W32_hi x; omega
theorem shlm_W32 (x : W) (s : Nat) (p : Int) (hp : p = 2 ^ s) : W32 x * p % 4294967296 = W32 (x <<< s) := by rw [hp, ← IntKind.wrap_u32, shl_W32]
theorem word_spell (a b c d : W) : bits .or .u32 (bits .or .u32 (bits .or .u32 (W32 a % 4294967296) (W32 b % 4294967296 * 256 % 4294967296)) (W32 c % 4294967296 * 65536 % 4294967296)) (W32 d % 4294967296 * 16777216 % 4294967296) =
    W32 (a ||| (b <<< 8) ||| (c <<< 16) ||| (d <<< 24)) := by
  simp only [mod_W32]
  rw [shlm_W32 b 8 256 (by decide), shlm_W32 c 16 65536 (by decide), shlm_W32 d 24 16777216 (by decide), or_W32, or_W32, or_W32]

set_option maxRecDepth 100000 in
set_option maxHeartbeats 4000000 in
theorem compress_any (h : List W) (hh : h.length = 8) (s : ByteArray) (hs : s.size = 64) (count : Nat) (hc : count < 18446744073709551616) (last : Bool) (w : World) :
    Calls Try.prog 39 #[.agg (wvs h).toArray, .string s, .int .u64 count, .bool last] w fun e w' =>
      e = .returned (.tuple #[.agg (wvs (compress h s.data.toList count last)).toArray, .int .i64 0]) ∧ Below w.heap.size w w' := by
  have hsz : (s.size : Int) = 64 := by omega
  go_enter Try.func39, Try.ntmps39
  go_wp2_with fail
  have hC1 : Cs w h (zeros 8) (part s.data.toList 0) (zeros 16) ((((w.alloc (.cells (wvs h).toArray 78)).alloc (.cells (wvs (zeros 8)).toArray 78)).alloc (.cells (wvs (zeros 16)).toArray 99)).alloc (.cells (wvs (zeros 16)).toArray 99)) := by
    have a0 := Arr.new w 78 (wvs h)
    have a1 := Arr.new (w.alloc (.cells (wvs h).toArray 78)) 78 (wvs (zeros 8))
    have a2 := Arr.new ((w.alloc (.cells (wvs h).toArray 78)).alloc (.cells (wvs (zeros 8)).toArray 78)) 99 (wvs (zeros 16))
    have a3 := Arr.new (((w.alloc (.cells (wvs h).toArray 78)).alloc (.cells (wvs (zeros 8)).toArray 78)).alloc (.cells (wvs (zeros 16)).toArray 99)) 99 (wvs (zeros 16))
    simp only [World.size_alloc] at a1 a2 a3
    exact ⟨((a0.alloc _).alloc _).alloc _, (a1.alloc _).alloc _, a2.alloc _, a3, ((((Below.refl _ _).alloc (Nat.le_refl _) _).alloc (by simp) _).alloc (by simp; omega) _).alloc (by simp; omega) _⟩
  go_loopw [25] (fun i wr => ∃ k : Nat, k ≤ 16 ∧ i = .int .i64 k ∧ Cs w h (zeros 8) (part s.data.toList k) (zeros 16) wr) (fun i _ => 16 - (intOf i).toNat)
  case atStart => exact ⟨0, by omega, rfl, hC1⟩
  case round =>
    obtain ⟨k, hk, rfl, hcs⟩ := hrel
    have HC := Keep.mk hcs
    clear hC1
    by_cases hlt : k < 16
    · have f1 := hcs.am.frozen k
      have f2 := hcs.am.word (i := k) (by rw [part_length _ hk]; exact hlt)
      have e0 := byteW_int s (4 * k) (by omega)
      have e1 := byteW_int s (4 * k + 1) (by omega)
      have e2 := byteW_int s (4 * k + 2) (by omega)
      have e3 := byteW_int s (4 * k + 3) (by omega)
      have i0 : (0 : Int) ≤ 4 * (k : Int) := by omega
      have i1 : (0 : Int) ≤ 4 * (k : Int) + 1 := by omega
      have i2 : (0 : Int) ≤ 4 * (k : Int) + 2 := by omega
      have i3 : (0 : Int) ≤ 4 * (k : Int) + 3 := by omega
      have j0 : 4 * (k : Int) < 64 := by omega
      have j1 : 4 * (k : Int) + 1 < 64 := by omega
      have j2 : 4 * (k : Int) + 2 < 64 := by omega
      have j3 : 4 * (k : Int) + 3 < 64 := by omega
      have n0 : (4 * (k : Int)).toNat = 4 * k := by omega
      have n1 : (4 * (k : Int) + 1).toNat = 4 * k + 1 := by omega
      have n2 : (4 * (k : Int) + 2).toNat = 4 * k + 2 := by omega
      have n3 : (4 * (k : Int) + 3).toNat = 4 * k + 3 := by omega
      have l0 : (0 : Int) ≤ k := by omega
      have l1 : (k : Int) < 16 := by omega
      clear hcs
      go_wp2_with fail
      go_region
      rw [word_spell]
      have H2 := Keep.mk (HC.out.setM k (word s.data.toList k)).drew
      rw [part_step _ hlt] at H2
      unfold word at H2
      generalize (wr.setCell ⟨w.heap.size + 2, k, none⟩ (.int .u32 (W32 (byteW s.data.toList (4 * k) ||| (byteW s.data.toList (4 * k + 1) <<< 8) ||| (byteW s.data.toList (4 * k + 2) <<< 16) ||| (byteW s.data.toList (4 * k + 3) <<< 24))))).drew = w2 at *
      clear e0 e1 e2 e3 n0 n1 n2 n3 f1 f2 i0 i1 i2 i3 j0 j1 j2 j3 HC
      go_wp2
      go_roundw
      case rel => exact ⟨k + 1, by omega, by go_num, H2.out⟩
      case measure => simp [intOf]; omega
    · have hk16 : k = 16 := by omega
      subst hk16
      clear hlt hk hcs
      rw [part_full] at HC
      go_wp2_with fail
      refine (initial_any wr).mono ?_
      rintro e w2 ⟨rfl, hb2⟩
      have H2 := Keep.mk (HC.out.below hb2)
      clear HC hb2
      have hD := H2.out.lt
      go_wp2_with (refine wpList_store_arr (o := ⟨none, _, _, _, _, _⟩) rfl 78 _ _ rfl w2.heap.size _ (wvs (zeros 8)) (wvs iv) rfl rfl (Arr.new w2 _ (wvs (zeros 8))) Try.info8 rfl (wvs_one _) ?_; intro w3 hA3 hg3; have H3 := Keep.mk (H2.out.below (((Below.refl _ w2).alloc (Nat.le_refl _) _).grown hg3 (by simp) (fun _ h => by cases h; exact Nat.le_refl _))); have A3 := Keep.mk hA3; clear hg3 hA3)
      generalize w2.heap.size = D at *
      clear H2
      clear w2
      go_still_tail 2, (by kernel_rfl)
      refine wpList_copy_own (o := ⟨some 63, _, _, _, _, _⟩) rfl _ _ _ _ rfl 77 Try.underlying100 Try.infoU32 (w.heap.size + 3) 0 8 16 ⟨w.heap.size, 0, none⟩ 8 8 rfl rfl (wvs (zeros 16)).toArray 99 H3.out.drew.av (wvs h) (by simp [hh, wvs_length]) H3.out.drew.ah.src (by simp [wvs_length, hh, zeros]) (wvs_one _) ?_
      have H4 := Keep.mk (H3.out.drew.newV (setRow_arr H3.out.drew.av (wvs (h ++ zeros 8))) (setRow_grown _))
      have A4 := Keep.mk (A3.out.drew.kept (setRow_grown (g := w.heap.size + 3) (wvs (h ++ zeros 8)).toArray) (by simp; omega))
      rw [show List.take 0 (wvs (zeros 16)).toArray.toList ++ (wvs h ++ List.drop (0 + (wvs h).length) (wvs (zeros 16)).toArray.toList) = wvs (h ++ zeros 8) by rw [wvs_length, hh]; simp [wvs, zeros]]
      change wpList _ _ _ _ _ (w3.drew.setRow _ _)
      generalize w3.drew.setRow (w.heap.size + 3) (wvs (h ++ zeros 8)).toArray = w4 at *
      clear H3 A3
      clear w3
      go_wp2_with fail
      go_still_tail 2, (by kernel_rfl)
      refine wpList_copy_own (o := ⟨some 66, _, _, _, _, _⟩) rfl _ _ _ _ rfl 77 Try.underlying100 Try.infoU32 (w.heap.size + 3) 8 8 8 ⟨D, 0, none⟩ 8 8 rfl rfl (wvs (h ++ zeros 8)).toArray 99 H4.out.drew.av (wvs iv) (by simp [iv, wvs_length]) A4.out.drew.src (by simp [wvs_length, hh, zeros, iv]) (wvs_one _) ?_
      have H5 := Keep.mk (H4.out.drew.newV (setRow_arr H4.out.drew.av (wvs (h ++ iv))) (setRow_grown _))
      rw [show List.take 8 (wvs (h ++ zeros 8)).toArray.toList ++ (wvs iv ++ List.drop (8 + (wvs iv).length) (wvs (h ++ zeros 8)).toArray.toList) = wvs (h ++ iv) by simp [wvs, zeros, iv, hh]]
      change wpList _ _ _ _ _ (w4.drew.setRow _ _)
      generalize w4.drew.setRow (w.heap.size + 3) (wvs (h ++ iv)).toArray = w5 at *
      clear H4 A4 hD
      clear w4
      have hxor := xor_W32
      have hn1 := count_W32 count
      have hn2 : (count : Int) / 4294967296 = W32 (BitVec.ofNat 32 (count / 4294967296)) := by rw [← count_W32]; omega
      have c12 := H5.out.av.word (i := 12) (by simp [hh, iv])
      have f12 := H5.out.av.frozen 12
      have c13 := H5.out.av.word (i := 13) (by simp [hh, iv])
      have f13 := H5.out.av.frozen 13
      have c14 := H5.out.av.word (i := 14) (by simp [hh, iv])
      have f14 := H5.out.av.frozen 14
      have H6 := Keep.mk (And.intro (start_false h count) (start_true h count))
      generalize (h ++ iv).getD 12 0 = x12 at *
      generalize (h ++ iv).getD 13 0 = x13 at *
      generalize (h ++ iv).getD 14 0 = x14 at *
      go_upto_if 80 with fail
      go_cut [] from 12 (fun wx => Cs w h (zeros 8) (words s.data.toList) (B2.start h count last) wx)
      case first =>
        have H7 := (H5.out.setV 12 (x12 ^^^ BitVec.ofNat 32 count)).setV 13 (x13 ^^^ BitVec.ofNat 32 (count / 4294967296))
        have g14 := H7.av.frozen 14
        have d14 : ((w5.setCell ⟨w.heap.size + 3, 12, none⟩ (.int .u32 (W32 (x12 ^^^ BitVec.ofNat 32 count)))).setCell ⟨w.heap.size + 3, 13, none⟩ (.int .u32 (W32 (x13 ^^^ BitVec.ofNat 32 (count / 4294967296))))).cell? ⟨w.heap.size + 3, 14, none⟩ = some (.int .u32 (W32 x14)) := by
          exact (World.cell?_setCell_other _ ⟨w.heap.size + 3, 13, none⟩ ⟨w.heap.size + 3, 14, none⟩ _ (by simp)).trans ((World.cell?_setCell_other _ ⟨w.heap.size + 3, 12, none⟩ ⟨w.heap.size + 3, 14, none⟩ _ (by simp)).trans c14)
        have H8 := Keep.mk (H7.setV 14 (4294967295#32 ^^^ x14))
        rw [← H6.out.2] at H8
        rw [← H6.out.1] at H7
        have H7 := Keep.mk H7
        clear H5 H6 hn1 hn2 c12 c13 c14 f12 f13 f14 hxor
        generalize (w5.setCell ⟨w.heap.size + 3, 12, none⟩ (.int .u32 (W32 (x12 ^^^ BitVec.ofNat 32 count)))).setCell ⟨w.heap.size + 3, 13, none⟩ (.int .u32 (W32 (x13 ^^^ BitVec.ofNat 32 (count / 4294967296)))) = w7 at *
        cases last with
        | true =>
          go_wp2
          rw [not_W32]
          go_meet
          exact H8.out
        | false =>
          go_wp2
          go_meet
          exact H7.out
      case rest =>
      clear H5 H6 hn1 hn2 c12 c13 c14 f12 f13 f14 hxor
      have H6 := Keep.mk hcut
      clear hcut
      generalize hv0 : B2.start h count last = v0 at *
      have hv0l : v0.length = 16 := by rw [← hv0, start_length hh]
      go_wp2_with (go_at_call 54; refine (permutations_any wc).mono ?_; rintro e w6 ⟨rfl, hb6⟩; have H7 := Keep.mk (H6.out.below hb6); clear H6 hb6)
      generalize hmm : words s.data.toList = m at *
      have hml : m.length = 16 := by rw [← hmm]; simp [words]
      have HV : Keep (rounds (words s.data.toList) (B2.start h count last) 10 = rounds m v0 10 ∧ True ∧ (rounds m v0 10).length = 16) := ⟨by rw [hmm, hv0], trivial, by rw [rounds_length, hv0l]⟩
      clear hmm hv0 hc hsz
      go_loopw [86] (fun i wr => ∃ r : Nat, r ≤ 10 ∧ i = .int .i64 r ∧ Cs w h (zeros 8) m (rounds m v0 r) wr) (fun i _ => 10 - (intOf i).toNat)
      case atStart => exact ⟨0, by omega, rfl, H7.out⟩
      case round =>
        obtain ⟨r, hr, rfl, hcs⟩ := hrel
        have HC := Keep.mk hcs
        clear hcs H7
        by_cases hlt : r < 10
        · have i0 : (0 : Int) ≤ r := by omega
          have i1 : (r : Int) < 10 := by omega
          have hix := run_index_perm r hlt wr
          have HS := Keep.mk (And.intro (sig_perm r hlt) (sig_perm' r hlt))
          generalize permL.getD r 0 = pr at *
          go_wp2_with (go_at_call 55; refine (quads_any wr).mono ?_; rintro e w7 ⟨rfl, hb7⟩; have H7 := Keep.mk (HC.out.below hb7); clear HC hb7)
          clear hix i0 i1
          have hw7 := H7.out.lt
          clear wr
          go_loopw [90] (fun v wi => ∃ i : Nat, i ≤ 8 ∧ v = .int .i64 i ∧ Cs w h (zeros 8) m (half m (rounds m v0 r) r i) wi) (fun v _ => 8 - (intOf v).toNat)
          case atStart => exact ⟨0, by omega, rfl, H7.out⟩
          case round =>
            obtain ⟨i, hi, rfl, hcs⟩ := hrel
            have HC := Keep.mk hcs
            clear hcs H7 hw7
            by_cases hil : i < 8
            · have i0 : (0 : Int) ≤ i := by omega
              have i1 : (i : Int) < 8 := by omega
              have hix := run_index_quad i hil wr
              go_wp2_with fail
              have HC2 := Keep.mk (HC.out.alloc (.cells #[.int .i64 (col i 0), .int .i64 (col i 1), .int .i64 (col i 2), .int .i64 (col i 3)] 103))
              have HQ := Keep.mk (Arr.new wr 103 [.int .i64 (col i 0), .int .i64 (col i 1), .int .i64 (col i 2), .int .i64 (col i 3)])
              have hwr := HC.out.lt
              clear hix HC
              have s0 : (0 : Int) ≤ 60 - 8 * (i : Int) := by omega
              have s1 : (0 : Int) ≤ 56 - 8 * (i : Int) := by omega
              have s2 : 60 - 8 * (i : Int) < 64 := by omega
              have s3 : 56 - 8 * (i : Int) < 64 := by omega
              go_quiet (fail)
              rw [HS.out.1 i hil _ rfl, HS.out.2 i hil _ rfl]
              have hx1 := sig_lt r hlt (2 * i) (by omega)
              have hx2 := sig_lt r hlt (2 * i + 1) (by omega)
              have HH := Keep.mk (show half m (rounds m v0 r) r (i + 1) = mixV (half m (rounds m v0 r) r i) (col i 0) (col i 1) (col i 2) (col i 3) (m.getD (sig r (2 * i)) 0) (m.getD (sig r (2 * i + 1)) 0) from rfl)
              have h4 := Keep.mk (four_col i hil)
              have hvl : (half m (rounds m v0 r) r i).length = 16 := by rw [half_length, rounds_length, hv0l]
              have HC3 := Keep.mk (HC2.out.drewN nq)
              have HQ3 := Keep.mk (HQ.out.drewN nq)
              clear HC2 HQ s0 s1 s2 s3
              generalize (wr.alloc (.cells #[.int .i64 (col i 0), .int .i64 (col i 1), .int .i64 (col i 2), .int .i64 (col i 3)] 103)).drewN nq = wa at *
              generalize wr.heap.size = Q at *
              generalize sig r (2 * i) = x at *
              generalize sig r (2 * i + 1) = y at *
              generalize half m (rounds m v0 r) r i = v at *
              have c0 := HQ3.out.cell 0
              have c1 := HQ3.out.cell 1
              have c2 := HQ3.out.cell 2
              have c3 := HQ3.out.cell 3
              simp only [List.getElem?_cons_zero, List.getElem?_cons_succ] at c0 c1 c2 c3
              have cx := HC3.out.am.word (i := x) (by omega)
              have cy := HC3.out.am.word (i := y) (by omega)
              generalize m.getD x 0 = mx at *
              generalize m.getD y 0 = my at *
              have x0 : (0 : Int) ≤ x := by omega
              have y0 : (0 : Int) ≤ y := by omega
              have x1 : (x : Int) < 16 := by omega
              have y1 : (y : Int) < 16 := by omega
              go_wp2_with fail
              go_still_tail 7, (by kernel_rfl)
              change wpList _ _ _ _ _ wa.drew
              have HC4 := Keep.mk HC3.out.drew
              generalize wa.drew = wb at *
              clear HC3 HQ3 c0 c1 c2 c3 cx cy x0 y0 x1 y1 wa
              go_wp2_with (go_at_call 56; refine (mix_any (w.heap.size + 3) v hvl _ _ _ _ h4.out mx my wb HC4.out.av).mono ?_; rintro e w8 ⟨rfl, hA8, hg8⟩; rw [← HH.out] at hA8; have HC5 := Keep.mk (HC4.out.newV hA8 hg8); clear HC4 hA8 hg8)
              go_roundw
              case rel => exact ⟨i + 1, by omega, by go_num, HC5.out⟩
              case measure => simp [intOf]; omega
            · have hi8 : i = 8 := by omega
              subst hi8
              clear hil hi
              go_wp2
              go_roundw
              case rel => exact ⟨r + 1, by omega, by go_num, HC.out⟩
              case measure => simp [intOf]; omega
        · have hr10 : r = 10 := by omega
          rw [hr10] at HC
          clear hr10 hr
          go_wp2_with fail
          clear hlt
          generalize rounds m v0 10 = v at *
          have hvl : v.length = 16 := HV.out.2.2
          go_loopw [116] (fun i wr => ∃ k : Nat, k ≤ 8 ∧ i = .int .i64 k ∧ Cs w (hpart h v k) (zeros 8) m v wr) (fun i _ => 8 - (intOf i).toNat)
          case atStart => exact ⟨0, by omega, rfl, HC.out⟩
          case round =>
            obtain ⟨k, hk, rfl, hcs⟩ := hrel
            have HC1 := Keep.mk hcs
            clear HC hcs
            by_cases hlt : k < 8
            · have c0 := HC1.out.ah.word (i := k) (by rw [hpart_length hh hk]; omega)
              rw [hpart_get] at c0
              have f0 := HC1.out.ah.frozen k
              have c1 := HC1.out.av.word (i := k) (by omega)
              have c2 := HC1.out.av.word (i := k + 8) (by omega)
              have H2 := Keep.mk (HC1.out.drew.setH k (h.getD k 0 ^^^ (v.getD k 0 ^^^ v.getD (k + 8) 0)))
              rw [hpart_step hh hlt] at H2
              generalize h.getD k 0 = xa at *
              generalize v.getD k 0 = xb at *
              generalize v.getD (k + 8) 0 = xc at *
              have hxor := xor_W32
              have k0 : (0 : Int) ≤ k := by omega
              have k1 : (k : Int) < 8 := by omega
              have k2 : (k : Int) < 16 := by omega
              have k3 : (0 : Int) ≤ (k : Int) + 8 := by omega
              have k4 : (k : Int) + 8 < 16 := by omega
              have k5 : ((k : Int) + 8).toNat = k + 8 := by omega
              have hw8 : IntKind.i64.wrap ((k : Int) + 8) = (k : Int) + 8 := IntWalk.i64_in _ (by omega)
              clear HC1
              go_wp2_with fail
              go_still_tail 13, (by kernel_rfl)
              change wpList _ _ _ _ _ wr.drew
              have f0' : wr.drew.frozen? ⟨w.heap.size, k, none⟩ = false := f0
              have c0' : wr.drew.cell? ⟨w.heap.size, k, none⟩ = some (.int .u32 (W32 xa)) := c0
              generalize wr.drew = wd at *
              clear hxor c0 c1 c2 f0 k2 k3 k4 k5 k0 hw8
              go_wp2
              go_roundw
              case rel => exact ⟨k + 1, by omega, by go_num, H2.out⟩
              case measure => simp [intOf]; omega
            · have hk8 : k = 8 := by omega
              subst hk8
              clear hlt hk
              have HE := Keep.mk (show hpart h v 8 = compress h s.data.toList count last from by rw [compress, HV.out.1]; exact hpart_full h _ hh)
              have hcl := compress_length h s.data.toList count last
              rw [HE.out] at HC1
              clear HE HV
              have HL := HC1.out.lt
              obtain ⟨z, hz⟩ : ∃ z, z = compress h s.data.toList count last := ⟨_, rfl⟩
              rw [← hz] at HC1 hcl
              have HZ := Keep.mk hz
              clear hz
              go_wp2_with (refine wpList_load_arr (o := ⟨some 133, _, _, _, _, _⟩) rfl 78 _ rfl w.heap.size _ (wvs z) rfl HC1.out.ah 8 77 Try.underlying78 (by rw [wvs_length, hcl]; exact Try.info8) ?_; refine wpList_store_arr (o := ⟨none, _, _, _, _, _⟩) rfl 78 _ _ rfl (w.heap.size + 1) _ (wvs (zeros 8)) (wvs z) rfl rfl HC1.out.ar (by rw [wvs_length, hcl]; exact Try.info8) (by rw [wvs_length, wvs_length, hcl]; rfl) (wvs_one _) ?_; intro wz hAz hgz)
              exact ret_arr2 (g := w.heap.size + 1) (xs := wvs z) rfl rfl hAz Try.underlying78 (by rw [wvs_length, hcl]; exact Try.info8) rfl ⟨by rw [← HZ.out]; rfl, HC1.out.be.grown hgz (by omega) (fun _ h => by cases h; omega)⟩
end Go.Proofs.Ytomlknjpaielgaa
