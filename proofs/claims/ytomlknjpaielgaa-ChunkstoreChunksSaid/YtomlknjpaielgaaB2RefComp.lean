/- Compress of the reference. No condition but the block's length. -/
import Derived.Test.YtomlknjpaielgaaB2RefMix
namespace Go.Proofs.Ytomlknjpaielgaa
set_option maxRecDepth 100000
open Go.RowKit Go.Shelf Go.Proofs.Ytomlknjpaielgaa.B2

theorem wpStill_load_arr {P : Program} {ops : Array Oper} {rest : List Oper} {o : Oper} {a : Act} {w : World} {Q : Act → Prop} (hgd : o.guard = none) (ty : TypeId) (x : Operand) (ho : o.op = .load ty x) (g : Nat) (t : TypeId) (xs : List Value) (hx : a.eval x = .pointer (some ⟨g, 0, none⟩)) (hg : Arr w g t xs)
    (n : Nat) (e : TypeId) (hu : P.underlying ty = some (.array n e)) (hi : (P.info? ty).map (·.size) = some xs.length) (h : wpStill P ops w Q rest (a.put o.dst (.agg xs.toArray))) : wpStill P ops w Q (o :: rest) a := by
  unfold wpStill
  rw [if_pos (by simp [Region.wanted, hgd])]
  have hl := run_loadVar_row (P := P) w g t ty _ (0, 0) _ hg hu rfl (by simpa using hi)
  have hr : (execOp a.eval o).run P w = .ok (.value (.agg xs.toArray)) w := by
    simp only [execOp, ho, hx, Instr.loadAt, Instr.sureAddr, Sem.run_bind, Sem.run_pure, Result.andThen_ok, hl]
  simp only [Oper.still, hr, Oper.stillUpon]
  exact ⟨trivial, h⟩

theorem permS_size (r : Nat) (hr : r < 10) : (permS r).size = 16 := by
  rcases r with _ | _ | _ | _ | _ | _ | _ | _ | _ | _ | r
  case succ.succ.succ.succ.succ.succ.succ.succ.succ.succ => exact absurd hr (by omega)
  all_goals rfl
theorem permS_get (r : Nat) (_hr : r < 10) (i : Nat) (h : i < (permS r).size) : (((permS r)[i]'h).toNat : Int) = ((nib (sig r i)).toNat : Int) := by
  have hl : i < ((sigma.getD r []).map nib).length := by simpa [permS, size_mkS] using h
  have : ((permS r)[i]'h) = ((sigma.getD r []).map nib)[i] := by
    simp only [permS, mkS]; rfl
  rw [this, List.getElem_map]
  unfold sig
  rw [List.getD_eq_getElem?_getD (l := sigma.getD r []) (i := i), List.getElem?_eq_getElem (by simpa using hl)]
  rfl
theorem digit_still (n : Nat) (hn : n < 16) (w : World) : Calls Try.prog 69 #[.int .u8 ((nib n).toNat : Int)] w fun e w' => e = .returned (.int .i64 n) ∧ w' = w := (digit_any n hn w).mono fun _ _ h => ⟨h.1, h.2.symm⟩

/-- The first three blocks of the reference's Compress. -/
structure Cq (w : World) (h r m : List W) (wr : World) : Prop where
  ah : Arr wr w.heap.size 78 (wvs h)
  ar : Arr wr (w.heap.size + 1) 78 (wvs r)
  am : Arr wr (w.heap.size + 2) 99 (wvs m)
  be : Below w.heap.size w wr
theorem Cq.lt {w wr : World} {h r m : List W} (c : Cq w h r m wr) : w.heap.size + 3 ≤ wr.heap.size := c.am.lt
theorem Cq.below {w wr w' : World} {h r m : List W} (c : Cq w h r m wr) (hb : Below (w.heap.size + 3) wr w') : Cq w h r m w' := by
  exact ⟨c.ah.below hb (by omega), c.ar.below hb (by omega), c.am.below hb (by omega), c.be.trans (hb.mono (by omega))⟩
theorem Cq.drew {w wr : World} {h r m : List W} (c : Cq w h r m wr) : Cq w h r m wr.drew := c.below (Below.refl _ _).drew
theorem Cq.setM {w wr : World} {h r m : List W} (c : Cq w h r m wr) (i : Nat) (x : W) : Cq w h r (m.set i x) (wr.setCell ⟨w.heap.size + 2, i, none⟩ (.int .u32 (W32 x))) :=
  ⟨c.ah.other (by simp) _, c.ar.other (by simp) _, c.am.setW i x, c.be.setCell (p := ⟨w.heap.size + 2, i, none⟩) (by simp) _⟩
theorem Cq.setH {w wr : World} {h r m : List W} (c : Cq w h r m wr) (i : Nat) (x : W) : Cq w (h.set i x) r m (wr.setCell ⟨w.heap.size, i, none⟩ (.int .u32 (W32 x))) :=
  ⟨c.ah.setW i x, c.ar.other (by simp) _, c.am.other (by simp) _, c.be.setCell (p := ⟨w.heap.size, i, none⟩) (by simp) _⟩
/-- All four: the vector lies in block G. -/
structure Cr (w : World) (G : Nat) (h r m v : List W) (wr : World) : Prop where
  q : Cq w h r m wr
  gb : w.heap.size + 3 ≤ G
  av : Arr wr G 99 (wvs v)
section
variable {w wr w' : World} {G : Nat} {h r m v : List W}
theorem Cr.lt (c : Cr w G h r m v wr) : G < wr.heap.size := c.av.lt
theorem Cr.below (c : Cr w G h r m v wr) (hb : Below wr.heap.size wr w') : Cr w G h r m v w' := ⟨c.q.below (hb.mono c.q.lt), c.gb, c.av.below hb c.av.lt⟩
theorem Cr.drew (c : Cr w G h r m v wr) : Cr w G h r m v wr.drew := c.below (Below.refl _ _).drew
theorem Cr.setV (c : Cr w G h r m v wr) (i : Nat) (x : W) : Cr w G h r m (v.set i x) (wr.setCell ⟨G, i, none⟩ (.int .u32 (W32 x))) :=
  ⟨c.q.below ((Below.refl _ _).setCell (p := ⟨G, i, none⟩) c.gb _), c.gb, c.av.setW i x⟩
theorem Cr.setH (c : Cr w G h r m v wr) (i : Nat) (x : W) : Cr w G (h.set i x) r m v (wr.setCell ⟨w.heap.size, i, none⟩ (.int .u32 (W32 x))) :=
  ⟨c.q.setH i x, c.gb, c.av.other (by have := c.gb; show G ≠ w.heap.size; omega) _⟩
theorem Cr.newV (c : Cr w G h r m v wr) {v' : List W} (hv : Arr w' G 99 (wvs v')) (hg : wr.grownBy w' (some G)) : Cr w G h r m v' w' :=
  ⟨c.q.below ((Below.refl _ _).grown hg c.q.lt (fun _ h => by cases h; exact c.gb)), c.gb, hv⟩
end

/-- A word of which n bytes are read. -/
def wpre (l : List UInt8) (j : Nat) : Nat → W
  | 0 => 0#32
  | n + 1 => wpre l j n ||| (byteW l (4 * j + n) <<< (8 * n))
theorem wpre_four (l : List UInt8) (j : Nat) : wpre l j 4 = word l j := by simp [wpre, word]
def bpart (l : List UInt8) (i : Nat) : List W := (List.range 16).map fun j => wpre l j (min 4 (i - 4 * j))
theorem bpart_length (l : List UInt8) (i : Nat) : (bpart l i).length = 16 := by simp [bpart]
theorem bpart_zero (l : List UInt8) : bpart l 0 = zeros 16 := by simp [bpart, zeros, wpre, List.map_const']
theorem bpart_full (l : List UInt8) : bpart l 64 = words l := by
  unfold bpart words
  apply List.map_congr_left
  intro j hj
  have := List.mem_range.1 hj
  rw [show min 4 (64 - 4 * j) = 4 by omega, wpre_four]
theorem bpart_step (l : List UInt8) {i : Nat} (hi : i < 64) : (bpart l i).set (i / 4) ((bpart l i).getD (i / 4) 0 ||| (byteW l i <<< (8 * (i % 4)))) = bpart l (i + 1) := by
  apply List.ext_getElem (by simp [bpart])
  intro j h1 h2
  simp only [List.length_set, bpart_length] at h1
  rw [List.getElem_set]
  have hd : (bpart l i).getD (i / 4) 0 = wpre l (i / 4) (i % 4) := by
    rw [List.getD_eq_getElem?_getD, List.getElem?_eq_getElem (by rw [bpart_length]; omega)]
    simp only [bpart, List.getElem_map, List.getElem_range, Option.getD_some]
    rw [show min 4 (i - 4 * (i / 4)) = i % 4 by omega]
  simp only [hd]
  simp only [bpart, List.getElem_map, List.getElem_range]
  split
  · next e =>
    subst e
    rw [show min 4 (i + 1 - 4 * (i / 4)) = i % 4 + 1 by omega, wpre, show 4 * (i / 4) + i % 4 = i by omega]
  · next e =>
    rw [show min 4 (i + 1 - 4 * j) = min 4 (i - 4 * j) by omega]
/-- The vector filled up to k. -/
def vpart (h : List W) (k : Nat) : List W := (h.take k ++ zeros (8 - k)) ++ (iv.take k ++ zeros (8 - k))
theorem vpart_zero (h : List W) : vpart h 0 = zeros 16 := by simp [vpart, zeros]
theorem vpart_full {h : List W} (hh : h.length = 8) : vpart h 8 = h ++ iv := by simp [vpart, zeros, iv, List.take_of_length_le (Nat.le_of_eq hh)]
theorem vpart_length {h : List W} (hh : h.length = 8) {k : Nat} (hk : k ≤ 8) : (vpart h k).length = 16 := by simp [vpart, zeros, hh, iv]; omega
theorem vpart_step {h : List W} (hh : h.length = 8) {k : Nat} (hk : k < 8) : ((vpart h k).set k (h.getD k 0)).set (k + 8) (iv.getD k 0) = vpart h (k + 1) := by
  obtain ⟨a0, a1, a2, a3, a4, a5, a6, a7, rfl⟩ : ∃ a0 a1 a2 a3 a4 a5 a6 a7, h = [a0, a1, a2, a3, a4, a5, a6, a7] := by
    match h, hh with
    | [a0, a1, a2, a3, a4, a5, a6, a7], _ => exact ⟨a0, a1, a2, a3, a4, a5, a6, a7, rfl⟩
  rcases k with _ | _ | _ | _ | _ | _ | _ | _ | k
  case succ.succ.succ.succ.succ.succ.succ.succ => exact absurd hk (by omega)
  all_goals rfl

set_option maxRecDepth 100000 in
set_option maxHeartbeats 8000000 in
theorem refCompress_any (h : List W) (hh : h.length = 8) (s : ByteArray) (hs : s.size = 64) (count : Nat) (hc : count < 18446744073709551616) (last : Bool) (w : World) :
    Calls Try.prog 60 #[.agg (wvs h).toArray, .string s, .int .u64 count, .bool last] w fun e w' =>
      e = .returned (.tuple #[.agg (wvs (compress h s.data.toList count last)).toArray, .int .i64 0]) ∧ Below w.heap.size w w' := by
  have hsz : (s.size : Int) = 64 := by omega
  go_enter Try.func60, Try.ntmps60
  go_wp2_with fail
  have hC1 : Cq w h (zeros 8) (bpart s.data.toList 0) (((w.alloc (.cells (wvs h).toArray 78)).alloc (.cells (wvs (zeros 8)).toArray 78)).alloc (.cells (wvs (zeros 16)).toArray 99)) := by
    have a0 := Arr.new w 78 (wvs h)
    have a1 := Arr.new (w.alloc (.cells (wvs h).toArray 78)) 78 (wvs (zeros 8))
    have a2 := Arr.new ((w.alloc (.cells (wvs h).toArray 78)).alloc (.cells (wvs (zeros 8)).toArray 78)) 99 (wvs (zeros 16))
    simp only [World.size_alloc] at a1 a2
    rw [bpart_zero]
    exact ⟨(a0.alloc _).alloc _, a1.alloc _, a2, (((Below.refl _ _).alloc (Nat.le_refl _) _).alloc (by simp) _).alloc (by simp; omega) _⟩
  go_loopw [11] (fun i wr => ∃ k : Nat, k ≤ 64 ∧ i = .int .i64 k ∧ Cq w h (zeros 8) (bpart s.data.toList k) wr) (fun i _ => 64 - (intOf i).toNat)
  case atStart => exact ⟨0, by omega, rfl, hC1⟩
  case round =>
    obtain ⟨k, hk, rfl, hcs⟩ := hrel
    have HC := Keep.mk hcs
    clear hC1
    by_cases hlt : k < 64
    · have f1 := hcs.am.frozen (k / 4)
      have c1 := hcs.am.word (i := k / 4) (by rw [bpart_length]; omega)
      have e0 := byteW_int s k (by omega)
      have H2 := Keep.mk (hcs.drew.setM (k / 4) ((bpart s.data.toList k).getD (k / 4) 0 ||| (byteW s.data.toList k <<< (8 * (k % 4)))))
      rw [bpart_step _ hlt] at H2
      generalize (bpart s.data.toList k).getD (k / 4) 0 = x0 at *
      generalize byteW s.data.toList k = y0 at *
      have i0 : (0 : Int) ≤ k := by omega
      have i1 : (k : Int) < 64 := by omega
      have q1 : (k : Int) / 4 = ((k / 4 : Nat) : Int) := by omega
      have q2 : (k : Int) % 4 = ((k % 4 : Nat) : Int) := by omega
      have q3 : k / 4 < 16 := by omega
      have q4 : k % 4 < 4 := by omega
      generalize k / 4 = j at *
      generalize k % 4 = r at *
      have q5 : IntKind.i64.wrap (j : Int) = j := IntWalk.i64_in _ (by omega)
      have q6 : IntKind.i64.wrap (r : Int) = r := IntWalk.i64_in _ (by omega)
      have q7 : IntKind.i64.wrap (8 * (r : Int)) = 8 * (r : Int) := IntWalk.i64_in _ (by omega)
      have q10 : (k : Int).tmod 4 = r := by rw [Int.tmod_eq_emod_of_nonneg i0]; exact q2
      have q11 : IntKind.u64.wrap (8 * (r : Int)) = 8 * (r : Int) := by rw [IntKind.wrap_u64]; omega
      have q12 : min (8 * (r : Int)).toNat 32 = 8 * r := by omega
      have hwr := wrap_W32
      have hsh := shl_W32
      have hor := or_W32
      have q8 : (j : Int) < 16 := by omega
      have q9 : (0 : Int) ≤ j := by omega
      clear hcs
      go_wp2_with fail
      refine wp_region_still_tail 17 (by kernel_rfl) (by kernel_rfl) ?_
      simp only [List.take_succ_cons, List.take_zero, List.drop_succ_cons, List.drop_zero]
      repeat still_step
      refine wpStill_nil ?_
      change wpList _ _ _ _ _ wr.drew
      have f1' : wr.drew.frozen? ⟨w.heap.size + 2, j, none⟩ = false := f1
      have c1' : wr.drew.cell? ⟨w.heap.size + 2, j, none⟩ = some (.int .u32 (W32 x0)) := c1
      generalize wr.drew = wd at *
      clear f1 c1 e0 q1 q2 q3 q4 q5 q6 q7 q8 q9 q10 q11 q12 hwr hsh hor i0
      go_wp2
      go_roundw
      case rel => exact ⟨k + 1, by omega, by go_num, H2.out⟩
      case measure => simp [intOf]; omega
    · have hk64 : k = 64 := by omega
      rw [hk64, bpart_full] at HC
      clear hk64 hk hcs
      generalize hmm : words s.data.toList = m at *
      have hml : m.length = 16 := by rw [← hmm]; simp [words]
      have HV0 := Keep.mk hmm
      clear hmm
      go_wp2_with fail
      refine (refInitial_any wr).mono ?_
      rintro e w2 ⟨rfl, hb2⟩
      have H2 := Keep.mk (HC.out.below (hb2.mono HC.out.lt))
      have hD := H2.out.lt
      clear HC hb2 hlt
      go_wp2_with (refine wpList_store_arr (o := ⟨none, _, _, _, _, _⟩) rfl 78 _ _ rfl w2.heap.size _ (wvs (zeros 8)) (wvs iv) rfl rfl (Arr.new w2 _ (wvs (zeros 8))) Try.info8 rfl (wvs_one _) ?_; intro w3 hA3 hg3; have H3 := Keep.mk (H2.out.below (((Below.refl _ w2).alloc hD _).grown hg3 (by simp; omega) (fun _ h => by cases h; exact hD))); have hD3 := hA3.lt; have A3 := Keep.mk hA3; clear hg3 hA3 H2)
      generalize w2.heap.size = D at *
      clear w2
      have HV := Keep.mk (Arr.new w3 99 (wvs (zeros 16)))
      have H4 := Keep.mk (Cr.mk (H3.out.below ((Below.refl _ w3).alloc H3.out.lt (.cells (wvs (zeros 16)).toArray 99))) H3.out.lt HV.out)
      have A4 := Keep.mk (A3.out.alloc (.cells (wvs (zeros 16)).toArray 99))
      clear HV H3 A3
      generalize w3.heap.size = G at *
      rw [← vpart_zero h] at H4
      go_loopw [14] (fun i wr => ∃ k : Nat, k ≤ 8 ∧ i = .int .i64 k ∧ Cr w G h (zeros 8) m (vpart h k) wr ∧ Arr wr D 78 (wvs iv)) (fun i _ => 8 - (intOf i).toNat)
      case atStart => exact ⟨0, by omega, rfl, H4.out, A4.out⟩
      case round =>
        obtain ⟨i, hi, rfl, hcs, hiv⟩ := hrel
        have HC := Keep.mk (And.intro hcs hiv)
        clear hcs hiv H4 A4
        by_cases hlt : i < 8
        · have c0 := HC.out.1.q.ah.word (i := i) (by omega)
          have c1 := HC.out.2.word (i := i) hlt
          have f0 := HC.out.1.av.frozen i
          have f1 := HC.out.1.av.frozen (i + 8)
          have d0 := HC.out.1.av.word (i := i) (by rw [vpart_length hh hi]; omega)
          have d1 := HC.out.1.av.word (i := i + 8) (by rw [vpart_length hh hi]; omega)
          have H5 := Keep.mk ((HC.out.1.setV i (h.getD i 0)).setV (i + 8) (iv.getD i 0))
          rw [vpart_step hh hlt] at H5
          have gb := HC.out.1.gb
          have A5 := Keep.mk ((HC.out.2.other (p := ⟨G, i, none⟩) (by show D ≠ G; omega) (.int .u32 (W32 (h.getD i 0)))).other (p := ⟨G, i + 8, none⟩) (by show D ≠ G; omega) (.int .u32 (W32 (iv.getD i 0))))
          generalize h.getD i 0 = x0 at *
          generalize iv.getD i 0 = y0 at *
          have i0 : (0 : Int) ≤ i := by omega
          have i1 : (i : Int) < 8 := by omega
          have i2 : (i : Int) < 16 := by omega
          have i3 : (0 : Int) ≤ (i : Int) + 8 := by omega
          have i4 : (i : Int) + 8 < 16 := by omega
          have i5 : ((i : Int) + 8).toNat = i + 8 := by omega
          have n1 : G ≠ D := by omega
          have n2 : D ≠ G := by omega
          clear HC
          go_wp2
          go_roundw
          case rel => exact ⟨i + 1, by omega, by go_num, H5.out, A5.out⟩
          case measure => simp [intOf]; omega
        · have hi8 : i = 8 := by omega
          rw [hi8, vpart_full hh] at HC
          have H5 := Keep.mk HC.out.1
          clear HC hi8 hi
          have hxor := xor_W32
          have hn1 := count_W32 count
          have hn2 : (count : Int) / 4294967296 = W32 (BitVec.ofNat 32 (count / 4294967296)) := by rw [← count_W32]; omega
          have c12 := H5.out.av.word (i := 12) (by simp [hh, iv])
          have f12 := H5.out.av.frozen 12
          have c13 := H5.out.av.word (i := 13) (by simp [hh, iv])
          have f13 := H5.out.av.frozen 13
          have c14 := H5.out.av.word (i := 14) (by simp [hh, iv])
          have f14 := H5.out.av.frozen 14
          have H6 := Keep.mk (And.intro (start_false h count) (start_true h count))
          generalize (h ++ iv).getD 12 0 = x12 at *
          generalize (h ++ iv).getD 13 0 = x13 at *
          generalize (h ++ iv).getD 14 0 = x14 at *
          generalize wr = w5 at *
          have hx1 : bits .xor .u32 (W32 x12) ((count : Int) % 4294967296) = W32 (x12 ^^^ BitVec.ofNat 32 count) := by rw [hn1, hxor]
          have hx2 : bits .xor .u32 (W32 x13) ((count : Int) / 4294967296) = W32 (x13 ^^^ BitVec.ofNat 32 (count / 4294967296)) := by rw [hn2, hxor]
          clear hxor hn1 hn2
          go_upto_if 74 with fail
          clear hlt
          go_cut [] from 14 (fun wx => Cr w G h (zeros 8) m (B2.start h count last) wx)
          case first =>
            have H7 := (H5.out.setV 12 (x12 ^^^ BitVec.ofNat 32 count)).setV 13 (x13 ^^^ BitVec.ofNat 32 (count / 4294967296))
            have g14 := H7.av.frozen 14
            have d14 : ((w5.setCell ⟨G, 12, none⟩ (.int .u32 (W32 (x12 ^^^ BitVec.ofNat 32 count)))).setCell ⟨G, 13, none⟩ (.int .u32 (W32 (x13 ^^^ BitVec.ofNat 32 (count / 4294967296))))).cell? ⟨G, 14, none⟩ = some (.int .u32 (W32 x14)) := by
              exact (World.cell?_setCell_other _ ⟨G, 13, none⟩ ⟨G, 14, none⟩ _ (by simp)).trans ((World.cell?_setCell_other _ ⟨G, 12, none⟩ ⟨G, 14, none⟩ _ (by simp)).trans c14)
            have H8 := Keep.mk (H7.setV 14 (4294967295#32 ^^^ x14))
            rw [← H6.out.2] at H8
            rw [← H6.out.1] at H7
            have H7 := Keep.mk H7
            clear H5 H6 hx1 hx2 c12 c13 c14 f12 f13 f14
            generalize (w5.setCell ⟨G, 12, none⟩ (.int .u32 (W32 (x12 ^^^ BitVec.ofNat 32 count)))).setCell ⟨G, 13, none⟩ (.int .u32 (W32 (x13 ^^^ BitVec.ofNat 32 (count / 4294967296)))) = w7 at *
            cases last with
            | true =>
              go_wp2
              rw [not_W32]
              go_meet
              exact H8.out
            | false =>
              go_wp2
              go_meet
              exact H7.out
          case rest =>
          clear H5 H6 hx1 hx2 c12 c13 c14 f12 f13 f14
          have H6 := Keep.mk hcut
          clear hcut
          generalize hv0 : B2.start h count last = v0 at *
          have hv0l : v0.length = 16 := by rw [← hv0, start_length hh]
          have HV : Keep (rounds (words s.data.toList) (B2.start h count last) 10 = rounds m v0 10 ∧ (rounds m v0 10).length = 16) := ⟨by rw [HV0.out, hv0], by rw [rounds_length, hv0l]⟩
          clear hv0 hc hsz HV0
          go_wp2_with fail
          clear hD hD3
          go_loopw [15] (fun i wr => ∃ r : Nat, r ≤ 10 ∧ i = .int .i64 r ∧ Cr w G h (zeros 8) m (rounds m v0 r) wr) (fun i _ => 10 - (intOf i).toNat)
          case atStart => exact ⟨0, by omega, rfl, H6.out⟩
          case round =>
            obtain ⟨r, hr, rfl, hcs⟩ := hrel
            have HC := Keep.mk hcs
            clear hcs H6
            by_cases hlt : r < 10
            · have i0 : (0 : Int) ≤ r := by omega
              have i1 : (r : Int) < 10 := by omega
              go_wp2_with (go_at_call 66; refine (permutation_any r hlt _).mono ?_; rintro e w6 ⟨rfl, rfl⟩)
              have hps : (permS r).size = 16 := permS_size r hlt
              have HP := Keep.mk (permS_get r hlt)
              generalize permS r = ps at *
              clear i0 i1
              generalize hwo : wr = wo at *
              go_loopw [17] (fun v wi => ∃ i : Nat, i ≤ 8 ∧ v = .int .i64 i ∧ Cr w G h (zeros 8) m (half m (rounds m v0 r) r i) wi) (fun v _ => 8 - (intOf v).toNat)
              case atStart => exact ⟨0, by omega, rfl, HC.out⟩
              case round =>
                obtain ⟨i, hi, rfl, hcs⟩ := hrel
                have HC1 := Keep.mk hcs
                clear hcs HC hwo wo
                by_cases hil : i < 8
                · have i0 : (0 : Int) ≤ i := by omega
                  have i1 : (i : Int) < 8 := by omega
                  go_wp2_with (go_at_call 67; refine (columns_any i hil _).mono ?_; rintro e w7 ⟨rfl, hb7⟩; have H7 := Keep.mk (HC1.out.below hb7); clear HC1 hb7)
                  have HC2 := Keep.mk (H7.out.below ((Below.refl _ w7).alloc (Nat.le_refl _) (.cells #[.int .i64 (col i 0), .int .i64 (col i 1), .int .i64 (col i 2), .int .i64 (col i 3)] 103)))
                  have HQ := Keep.mk (Arr.new w7 103 [.int .i64 (col i 0), .int .i64 (col i 1), .int .i64 (col i 2), .int .i64 (col i 3)])
                  have hx1 := sig_lt r hlt (2 * i) (by omega)
                  have hx2 := sig_lt r hlt (2 * i + 1) (by omega)
                  have e1 := HP.out (2 * i) (by omega)
                  have e2 := HP.out (2 * i + 1) (by omega)
                  have HH := Keep.mk (show half m (rounds m v0 r) r (i + 1) = mixV (half m (rounds m v0 r) r i) (col i 0) (col i 1) (col i 2) (col i 3) (m.getD (sig r (2 * i)) 0) (m.getD (sig r (2 * i + 1)) 0) from rfl)
                  have h4 := Keep.mk (four_col i hil)
                  have hvl : (half m (rounds m v0 r) r i).length = 16 := by rw [half_length, rounds_length, hv0l]
                  have hD := H7.out.lt
                  clear H7
                  generalize w7.alloc (.cells #[.int .i64 (col i 0), .int .i64 (col i 1), .int .i64 (col i 2), .int .i64 (col i 3)] 103) = wa at *
                  generalize w7.heap.size = Q at *
                  generalize sig r (2 * i) = x at *
                  generalize sig r (2 * i + 1) = y at *
                  generalize half m (rounds m v0 r) r i = v at *
                  have c0 := HQ.out.cell 0
                  have c1 := HQ.out.cell 1
                  have c2 := HQ.out.cell 2
                  have c3 := HQ.out.cell 3
                  simp only [List.getElem?_cons_zero, List.getElem?_cons_succ] at c0 c1 c2 c3
                  have cx := HC2.out.q.am.word (i := x) (by omega)
                  have cy := HC2.out.q.am.word (i := y) (by omega)
                  generalize m.getD x 0 = mx at *
                  generalize m.getD y 0 = my at *
                  have x0 : (0 : Int) ≤ x := by omega
                  have y0 : (0 : Int) ≤ y := by omega
                  have x1 : (x : Int) < 16 := by omega
                  have y1 : (y : Int) < 16 := by omega
                  have z0 : (0 : Int) ≤ 2 * (i : Int) := by omega
                  have z1 : (0 : Int) ≤ 2 * (i : Int) + 1 := by omega
                  have z2 : 2 * (i : Int) < 16 := by omega
                  have z3 : 2 * (i : Int) + 1 < 16 := by omega
                  have z4 : (2 * (i : Int)).toNat = 2 * i := by omega
                  have z5 : (2 * (i : Int) + 1).toNat = 2 * i + 1 := by omega
                  have z6 : IntKind.i64.wrap (2 * (i : Int)) = 2 * (i : Int) := IntWalk.i64_in _ (by omega)
                  have z7 : IntKind.i64.wrap (2 * (i : Int) + 1) = 2 * (i : Int) + 1 := IntWalk.i64_in _ (by omega)
                  have hps' : (ps.size : Int) = 16 := by omega
                  have HAV : Keep (Arr wa.drew G 99 (wvs v)) := ⟨HC2.out.drew.av⟩
                  refine wp_region_still_tail 24 (by kernel_rfl) (by kernel_rfl) ?_
                  simp only [List.take_succ_cons, List.take_zero, List.drop_succ_cons, List.drop_zero]
                  refine wpStill_load_arr (o := ⟨some 91, _, _, _, _, _⟩) rfl 99 _ rfl G _ (wvs v) rfl HAV.out 16 77 Try.underlying99 (by rw [wvs_length, hvl]; exact Try.info16) ?_
                  iterate 12 still_step
                  still_call (digit_still x hx1 _)
                  iterate 7 still_step
                  still_call (digit_still y hx2 _)
                  iterate 2 still_step
                  refine wpStill_nil ?_
                  change wpList _ _ _ _ _ wa.drew
                  have HC4 := Keep.mk HC2.out.drew
                  generalize wa.drew = wb at *
                  clear HC2 HQ c0 c1 c2 c3 cx cy x0 y0 x1 y1 z0 z1 z2 z3 z4 z5 z6 z7 e1 e2 HAV
                  clear wa
                  have hml' := mixV_length v (col i 0) (col i 1) (col i 2) (col i 3) mx my
                  rw [hvl] at hml'
                  go_wp2_with (first | (go_at_call 68; refine (refMix_any v hvl _ _ _ _ h4.out mx my wb).mono ?_; rintro e w8 ⟨rfl, hb8⟩; have HC5 := Keep.mk (HC4.out.below hb8); clear HC4 hb8) | (with_reducible (show wpList _ _ _ (⟨none, _, _, _, _, _⟩ :: _) _ _); refine wpList_store_arr (o := ⟨none, _, _, _, _, _⟩) rfl 99 _ _ rfl G _ (wvs v) (wvs (mixV v (col i 0) (col i 1) (col i 2) (col i 3) mx my)) rfl rfl HC5.out.av (by rw [wvs_length, hml']; exact Try.info16) (by rw [wvs_length, wvs_length, hml', hvl]) (wvs_one _) ?_; intro w9 hA9 hg9; rw [← HH.out] at hA9; have HC6 := Keep.mk (HC5.out.newV hA9 hg9); clear HC5 hA9 hg9))
                  go_roundw
                  case rel => exact ⟨i + 1, by omega, by go_num, HC6.out⟩
                  case measure => simp [intOf]; omega
                · have hi8 : i = 8 := by omega
                  rw [hi8] at HC1
                  clear hi8 hi
                  go_wp2
                  go_roundw
                  case rel => exact ⟨r + 1, by omega, by go_num, HC1.out⟩
                  case measure => simp [intOf]; omega
            · have hr10 : r = 10 := by omega
              rw [hr10] at HC
              clear hr10 hr
              go_wp2_with fail
              clear hlt
              generalize rounds m v0 10 = v at *
              have hvl : v.length = 16 := HV.out.2
              go_loopw [19] (fun i wr => ∃ k : Nat, k ≤ 8 ∧ i = .int .i64 k ∧ Cr w G (hpart h v k) (zeros 8) m v wr) (fun i _ => 8 - (intOf i).toNat)
              case atStart => exact ⟨0, by omega, rfl, HC.out⟩
              case round =>
                obtain ⟨k, hk, rfl, hcs⟩ := hrel
                have HC1 := Keep.mk hcs
                clear HC hcs
                by_cases hlt : k < 8
                · have c0 := HC1.out.q.ah.word (i := k) (by rw [hpart_length hh hk]; omega)
                  rw [hpart_get] at c0
                  have f0 := HC1.out.q.ah.frozen k
                  have c1 := HC1.out.av.word (i := k) (by omega)
                  have c2 := HC1.out.av.word (i := k + 8) (by omega)
                  have H2 := Keep.mk (HC1.out.drew.setH k (h.getD k 0 ^^^ (v.getD k 0 ^^^ v.getD (k + 8) 0)))
                  rw [hpart_step hh hlt] at H2
                  generalize h.getD k 0 = xa at *
                  generalize v.getD k 0 = xb at *
                  generalize v.getD (k + 8) 0 = xc at *
                  rw [← BitVec.xor_assoc] at H2
                  have hxor := xor_W32
                  have k0 : (0 : Int) ≤ k := by omega
                  have k1 : (k : Int) < 8 := by omega
                  have k2 : (k : Int) < 16 := by omega
                  have k3 : (0 : Int) ≤ (k : Int) + 8 := by omega
                  have k4 : (k : Int) + 8 < 16 := by omega
                  have k5 : ((k : Int) + 8).toNat = k + 8 := by omega
                  have hw8 : IntKind.i64.wrap ((k : Int) + 8) = (k : Int) + 8 := IntWalk.i64_in _ (by omega)
                  clear HC1
                  go_wp2_with fail
                  go_still_tail 14, (by kernel_rfl)
                  change wpList _ _ _ _ _ wr.drew
                  have f0' : wr.drew.frozen? ⟨w.heap.size, k, none⟩ = false := f0
                  have c0' : wr.drew.cell? ⟨w.heap.size, k, none⟩ = some (.int .u32 (W32 xa)) := c0
                  generalize wr.drew = wd at *
                  clear hxor c0 c1 c2 f0 k2 k3 k4 k5 k0 hw8
                  go_wp2
                  go_roundw
                  case rel => exact ⟨k + 1, by omega, by go_num, H2.out⟩
                  case measure => simp [intOf]; omega
                · have hk8 : k = 8 := by omega
                  rw [hk8] at HC1
                  clear hk8 hk
                  have HE := Keep.mk (show hpart h v 8 = compress h s.data.toList count last from by rw [compress, HV.out.1]; exact hpart_full h _ hh)
                  have hcl := compress_length h s.data.toList count last
                  rw [HE.out] at HC1
                  clear HE HV
                  have HL := HC1.out.q.lt
                  obtain ⟨z, hz⟩ : ∃ z, z = compress h s.data.toList count last := ⟨_, rfl⟩
                  rw [← hz] at HC1 hcl
                  have HZ := Keep.mk hz
                  clear hz
                  go_wp2_with (refine wpList_load_arr (o := ⟨some 134, _, _, _, _, _⟩) rfl 78 _ rfl w.heap.size _ (wvs z) rfl HC1.out.q.ah 8 77 Try.underlying78 (by rw [wvs_length, hcl]; exact Try.info8) ?_; refine wpList_store_arr (o := ⟨none, _, _, _, _, _⟩) rfl 78 _ _ rfl (w.heap.size + 1) _ (wvs (zeros 8)) (wvs z) rfl rfl HC1.out.q.ar (by rw [wvs_length, hcl]; exact Try.info8) (by rw [wvs_length, wvs_length, hcl]; rfl) (wvs_one _) ?_; intro wz hAz hgz)
                  exact ret_arr2 (g := w.heap.size + 1) (xs := wvs z) rfl rfl hAz Try.underlying78 (by rw [wvs_length, hcl]; exact Try.info8) rfl ⟨by rw [← HZ.out]; rfl, HC1.out.q.be.grown hgz (by omega) (fun _ h => by cases h; omega)⟩
end Go.Proofs.Ytomlknjpaielgaa
