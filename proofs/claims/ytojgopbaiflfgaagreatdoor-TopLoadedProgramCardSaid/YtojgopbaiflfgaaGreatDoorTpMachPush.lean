/- The machine's small functions: check, push, pop, address. No condition. The machine's instructions with two operands. No condition. -/
import Derived.Test.YtojgopbaiflfgaaGreatDoorTpMach
namespace Go.Proofs.YtojgopbaiflfgaaGreatDoor
set_option maxRecDepth 100000
open Go.RowKit Go.Shelf Go.Proofs.YtojgopbaiflfgaaGreatDoor.B2

theorem Tryz.infoW : (Tryz.prog.info? 29).map (fun i => (i.zero, i.size, i.bytes)) = some (some (.int .u32 0), 1, 4) := by kernel_rfl
theorem traps_is : Traps (.panicked [{ v := noTr, recovered := false }]) := rfl
theorem check_ok (w : World) : Calls Tryz.prog 44 #[.bool true] w fun e w' => (∃ v, e = .returned v) ∧ w' = w := by
  go_enter Tryz.func44, Tryz.ntmps44
  go_wp2
  go_end0
  exact ⟨⟨_, rfl⟩, rfl⟩
theorem check_bad (w : World) : Calls Tryz.prog 44 #[.bool false] w fun e w' => Traps e ∧ w' = w := by
  go_enter Tryz.func44, Tryz.ntmps44
  go_wp2
  exact ⟨rfl, rfl, rfl⟩
theorem slc_made {w : World} {t : TypeId} {size n : Nat} (xs : List Value) (hn : n ≤ maxLen) (hl : xs.length = n * size) : Slc (w.alloc (.cells xs.toArray t)) size (.slice (some ⟨w.heap.size, 0, none⟩) n n) n xs := by
  refine ⟨_, _, rfl, Nat.le_refl _, hn, hl, .inr ⟨w.heap.size, 0, rfl, by simp, fun j u hu => ?_⟩⟩
  have := heap_alloc_new w (.cells xs.toArray t)
  simp only [World.cell?, this, Nat.zero_add]
  simpa using hu
theorem MIn.lt {w : World} {base B M G k : Nat} {s : St} (h : MIn w base B M G s k) : B < w.heap.size := by obtain ⟨_, _, _, _, h⟩ := h; exact h.lt
set_option maxHeartbeats 2000000 in
theorem push_any {w : World} {base B M G k : Nat} {s : St} (h : MIn w base B M G s k) (v : W) (hl : s.data.length < 256) :
    Calls Tryz.prog 63 #[.pointer (some ⟨B, 0, none⟩), .int .u32 (W32 v)] w fun e w' => (∃ u, e = .returned u) ∧ MIn w' base B M G { s with data := v :: s.data } k ∧ Mw base w w' := by
  obtain ⟨dv, cv, iv, ov, h⟩ := h
  obtain ⟨i0, hi, hz0, hz1, hz2⟩ := info_parts Tryz.infoW
  obtain ⟨da, dc, rfl⟩ := ownsRow_slice h.data
  have H := Keep.mk h
  have c2 : w.cell? ⟨B, 2, none⟩ = some (.slice da s.data.length dc) := h.cell 2
  have hBl := h.lt
  have hbw : base ≤ w.heap.size := by have := h.bB; omega
  have f1 : (s.data.length : Int) < 256 := by omega
  clear h
  go_enter Tryz.func63, Tryz.ntmps63
  go_wp2_with fail
  refine (check_ok _).mono ?_
  rintro _ w2 ⟨⟨u, rfl⟩, rfl⟩
  go_wp2_with (at_builtin; go_must (refine wpList_append_slc rfl _ _ 44 rfl base 29 i0 (.int .u32 0) 1 4 Tryz.underlying44 hi hz0 hz1 hz2 rfl (by decide) _ s.data.length (wvs s.data.reverse) rfl (World.ownsRow.alloc H.out.data _) _ 1 [.int .u32 (W32 v)] rfl (slc_made (t := 29) [.int .u32 (W32 v)] (by decide) rfl) (by simp [Value.oneCell']) (by unfold maxLen; omega) (by omega) (Nat.le_trans hbw (by simp)) ?_))
  intro v9 w9 hown9 hg9 hv9
  obtain ⟨a9, c9, rfl⟩ := ownsRow_slice hown9
  have H9 := Keep.mk ((H.out.below ((Below.refl _ _).alloc (Nat.le_refl _) _)).pushed v hl hown9 hg9 (by rw [World.size_alloc]; exact hv9))
  have n0 : w9.cell? ⟨B, 2, none⟩ = some (.slice da s.data.length dc) := by simp [World.cell?, H9.out.1, boxC]
  have n1 : w9.frozen? ⟨B, 2, none⟩ = false := by simp [World.frozen?, H9.out.1]
  have n2 : B < w9.heap.size := (Array.getElem?_eq_some_iff.1 H9.out.1).1
  clear hown9 hg9 hv9
  go_wp2_with fail
  go_end0
  exact ⟨⟨_, rfl⟩, ⟨_, _, _, _, H9.out.2.1⟩, (Mw.of_below ((Below.refl _ _).alloc (Nat.le_refl _) _)).trans H9.out.2.2⟩
theorem push_trap {w : World} {base B M G k : Nat} {s : St} (h : MIn w base B M G s k) (v : W) (hl : 256 ≤ s.data.length) :
    Calls Tryz.prog 63 #[.pointer (some ⟨B, 0, none⟩), .int .u32 (W32 v)] w fun e w' => Traps e ∧ w' = w := by
  obtain ⟨dv, cv, iv, ov, h⟩ := h
  obtain ⟨da, dc, rfl⟩ := ownsRow_slice h.data
  have c2 : w.cell? ⟨B, 2, none⟩ = some (.slice da s.data.length dc) := h.cell 2
  have hBl := h.lt
  have f1 : ¬ (s.data.length : Int) < 256 := by omega
  clear h
  go_enter Tryz.func63, Tryz.ntmps63
  go_wp2_with fail
  refine (check_bad _).mono ?_
  rintro _ w2 ⟨rfl, rfl⟩
  exact ⟨rfl, rfl, rfl⟩
theorem pop_trap {w : World} {base B M G k : Nat} {s : St} (h : MIn w base B M G s k) (hl : s.data = []) :
    Calls Tryz.prog 65 #[.pointer (some ⟨B, 0, none⟩)] w fun e w' => Traps e ∧ w' = w := by
  obtain ⟨dv, cv, iv, ov, h⟩ := h
  have hd := h.data
  rw [hl] at hd
  obtain ⟨da, dc, rfl⟩ := ownsRow_slice hd
  have c2 : w.cell? ⟨B, 2, none⟩ = some (.slice da 0 dc) := h.cell 2
  have hBl := h.lt
  clear h hd hl
  go_enter Tryz.func65, Tryz.ntmps65
  go_wp2_with fail
  refine (check_bad _).mono ?_
  rintro _ w2 ⟨rfl, rfl⟩
  exact ⟨rfl, rfl, rfl⟩
set_option maxHeartbeats 2000000 in
theorem pop_at {w : World} {base B M G k : Nat} {s : St} {dv cv iv ov : Value} (h : MAt w base B M G s k dv cv iv ov) (v : W) (d : List W) (hl : s.data = v :: d) :
    Calls Tryz.prog 65 #[.pointer (some ⟨B, 0, none⟩)] w fun e w' => e = .returned (.int .u32 (W32 v)) ∧ (∃ dv', MAt w' base B M G { s with data := d } k dv' cv iv ov) ∧ Mw base w w' := by
  have hd := h.data
  rw [hl] at hd
  have hd0 := hd
  obtain ⟨hd1, ⟨rfl, hd2⟩ | ⟨g, cap, cur, rfl, hg1, hg2, hg3, hg4, hg5, hg6⟩⟩ := hd0
  · simp at hd2
  have H := Keep.mk h
  have c2 : w.cell? ⟨B, 2, none⟩ = some (.slice (some ⟨g, 0, none⟩) (v :: d).length cap) := h.cell 2
  have f2 : w.frozen? ⟨B, 2, none⟩ = false := h.frozen 2
  have hBl := h.lt
  have hgl : g < w.heap.size := (Array.getElem?_eq_some_iff.1 hg2).1
  have cg : w.cell? ⟨g, d.length, none⟩ = some (.int .u32 (W32 v)) := by
    have e : (wvs (v :: d).reverse)[d.length]? = some (.int .u32 (W32 v)) := by
      rw [List.reverse_cons]
      simp [wvs, wv]
    rw [← hg6, List.getElem?_take] at e
    rw [if_pos (by simp)] at e
    simp only [World.cell?, hg2]
    simpa using e
  have hlen : (v :: d).length = d.length + 1 := rfl
  have HROW : Keep (w.ownsRow base 29 1 (.slice (some ⟨g, 0, none⟩) d.length cap) d.length (wvs d.reverse)) := ⟨by
    refine ⟨by simp [wvs], .inr ⟨g, cap, cur, rfl, hg1, hg2, by omega, hg4, hg5, ?_⟩⟩
    have := congrArg (List.take (d.length * 1)) hg6
    rw [List.take_take, List.reverse_cons] at this
    rw [show min (d.length * 1) ((v :: d).length * 1) = d.length * 1 by simp] at this
    rw [this]
    simp [wvs]⟩
  rw [hlen] at c2 hg3
  unfold maxLen at hg4
  have hdl : d.length < 256 := by have := h.d256; rw [hl] at this; simp at this; omega
  clear h hd hd1 hg6 hg5 hlen
  go_enter Tryz.func65, Tryz.ntmps65
  go_wp2_with fail
  refine (check_ok _).mono ?_
  rintro _ w2 ⟨⟨u, rfl⟩, rfl⟩
  go_wp2_with fail
  have HF := Keep.mk (H.out.setB (s' := { s with data := d }) (k' := k) (dv' := .slice (some ⟨g, 0, none⟩) d.length cap) (cv' := cv) (iv' := iv) (ov' := ov) 2 (.slice (some ⟨g, 0, none⟩) d.length cap) rfl rfl HROW.out H.out.calls H.out.inp H.out.inpb H.out.out H.out.dM H.out.cM H.out.dc (by show d.length ≤ 256; omega) H.out.c64 H.out.o20)
  go_ret
  exact ⟨rfl, ⟨_, HF.out⟩, H.out.mw 2 _⟩
theorem pop_any {w : World} {base B M G k : Nat} {s : St} (h : MIn w base B M G s k) (v : W) (d : List W) (hl : s.data = v :: d) :
    Calls Tryz.prog 65 #[.pointer (some ⟨B, 0, none⟩)] w fun e w' => e = .returned (.int .u32 (W32 v)) ∧ MIn w' base B M G { s with data := d } k ∧ Mw base w w' := by
  obtain ⟨dv, cv, iv, ov, h⟩ := h
  refine (pop_at h v d hl).mono ?_
  rintro e w' ⟨h1, ⟨dv', h2⟩, h3⟩
  exact ⟨h1, ⟨_, _, _, _, h2⟩, h3⟩
theorem addr_trap {w : World} {base B M G k : Nat} {s : St} (h : MIn w base B M G s k) (hl : s.data = []) :
    Calls Tryz.prog 64 #[.pointer (some ⟨B, 0, none⟩)] w fun e w' => Traps e ∧ w' = w := by
  have HP := Keep.mk (pop_trap h hl)
  clear h hl
  go_enter Tryz.func64, Tryz.ntmps64
  go_wp2_with fail
  refine HP.out.mono ?_
  rintro _ w2 ⟨rfl, rfl⟩
  exact ⟨rfl, rfl, rfl⟩
theorem addr_wide {w : World} {base B M G k : Nat} {s : St} (h : MIn w base B M G s k) (v : W) (d : List W) (hl : s.data = v :: d) (hv : 262144 ≤ v.toNat) :
    Calls Tryz.prog 64 #[.pointer (some ⟨B, 0, none⟩)] w fun e w' => Traps e ∧ MIn w' base B M G { s with data := d } k ∧ Mw base w w' := by
  have HP := Keep.mk (pop_any h v d hl)
  have f1 : decide (W32 v < 262144) = false := by unfold W32; rw [decide_eq_false_iff_not]; omega
  clear h hl hv
  go_enter Tryz.func64, Tryz.ntmps64
  go_wp2_with fail
  refine HP.out.mono ?_
  rintro _ w2 ⟨rfl, h2⟩
  have H2 := Keep.mk h2
  clear h2
  go_wp2_with fail
  refine (check_bad _).mono ?_
  rintro _ w3 ⟨rfl, rfl⟩
  refine ⟨rfl, traps_is, ?_⟩
  exact H2.out
theorem addr_any {w : World} {base B M G k : Nat} {s : St} (h : MIn w base B M G s k) (v : W) (d : List W) (hl : s.data = v :: d) (hv : v.toNat < 262144) :
    Calls Tryz.prog 64 #[.pointer (some ⟨B, 0, none⟩)] w fun e w' => e = .returned (.int .u32 (W32 v)) ∧ MIn w' base B M G { s with data := d } k ∧ Mw base w w' := by
  have HP := Keep.mk (pop_any h v d hl)
  have f1 : decide (W32 v < 262144) = true := by unfold W32; rw [decide_eq_true_iff]; omega
  clear h hl hv
  go_enter Tryz.func64, Tryz.ntmps64
  go_wp2_with fail
  refine HP.out.mono ?_
  rintro _ w2 ⟨rfl, h2⟩
  have H2 := Keep.mk h2
  clear h2
  go_wp2_with fail
  refine (check_ok _).mono ?_
  rintro _ w3 ⟨⟨u, rfl⟩, rfl⟩
  go_wp2_with fail
  go_ret
  exact ⟨rfl, H2.out⟩

theorem sub_W32 (x y : W) : IntKind.u32.wrap (W32 x - W32 y) = W32 (x - y) := by
  rw [IntKind.wrap_u32]; unfold W32; rw [BitVec.toNat_sub]
  have := x.isLt; have := y.isLt
  omega
theorem mul_W32 (x y : W) : IntKind.u32.wrap (W32 x * W32 y) = W32 (x * y) := by
  rw [IntKind.wrap_u32]; unfold W32; rw [BitVec.toNat_mul]
  have h : ((x.toNat : Int) * (y.toNat : Int)) = ((x.toNat * y.toNat : Nat) : Int) := by simp
  rw [h]
  generalize x.toNat * y.toNat = n
  omega
theorem div_W32 (x y : W) : (W32 x).tdiv (W32 y) % 4294967296 = W32 (x / y) := by
  unfold W32
  have h : ((x.toNat : Int)).tdiv (y.toNat : Int) = ((x.toNat / y.toNat : Nat) : Int) := (Int.ofNat_tdiv _ _).symm
  rw [h, BitVec.toNat_udiv]
  have := x.isLt
  have : x.toNat / y.toNat ≤ x.toNat := Nat.div_le_self _ _
  generalize x.toNat / y.toNat = q at *
  omega
theorem mod_W32 (x y : W) : (W32 x).tmod (W32 y) = W32 (x % y) := by
  unfold W32
  have h : ((x.toNat : Int)).tmod (y.toNat : Int) = ((x.toNat % y.toNat : Nat) : Int) := (Int.ofNat_tmod _ _).symm
  rw [h, BitVec.toNat_umod]
theorem nz_W32 {b : W} (hb : b ≠ 0#32) : W32 b ≠ 0 := fun e => hb (W32_inj (e.trans (by decide)))
set_option maxHeartbeats 1000000 in
theorem bin1_any (a b : W) (w : World) : Calls Tryz.prog 40 #[.int .u32 (W32 a), .int .u32 (W32 b)] w fun e w' => e = .returned (.int .u32 (W32 (a + b))) ∧ w' = w := by
  have e := add_W32 a b
  go_enter Tryz.func40, Tryz.ntmps40
  go_wp2_with fail
  go_ret
  exact ⟨rfl, rfl⟩
set_option maxHeartbeats 1000000 in
theorem bin2_any (a b : W) (w : World) : Calls Tryz.prog 41 #[.int .u32 (W32 a), .int .u32 (W32 b)] w fun e w' => e = .returned (.int .u32 (W32 (a - b))) ∧ w' = w := by
  have e := sub_W32 a b
  go_enter Tryz.func41, Tryz.ntmps41
  go_wp2_with fail
  go_ret
  exact ⟨rfl, rfl⟩
set_option maxHeartbeats 1000000 in
theorem bin3_any (a b : W) (w : World) : Calls Tryz.prog 42 #[.int .u32 (W32 a), .int .u32 (W32 b)] w fun e w' => e = .returned (.int .u32 (W32 (a * b))) ∧ w' = w := by
  have e := mul_W32 a b
  go_enter Tryz.func42, Tryz.ntmps42
  go_wp2_with fail
  go_ret
  exact ⟨rfl, rfl⟩
set_option maxHeartbeats 1000000 in
theorem bin6_any (a b : W) (w : World) : Calls Tryz.prog 46 #[.int .u32 (W32 a), .int .u32 (W32 b)] w fun e w' => e = .returned (.int .u32 (W32 (a ^^^ b))) ∧ w' = w := by
  have e := xor_W32 a b
  go_enter Tryz.func46, Tryz.ntmps46
  go_wp2_with fail
  go_ret
  exact ⟨rfl, rfl⟩
set_option maxHeartbeats 1000000 in
theorem bin4_any (a b : W) (hb : b ≠ 0#32) (w : World) : Calls Tryz.prog 43 #[.int .u32 (W32 a), .int .u32 (W32 b)] w fun e w' => e = .returned (.int .u32 (W32 (a / b))) ∧ w' = w := by
  have nz := nz_W32 hb
  have e : (W32 b != 0) = true := by simpa using nz
  have e2 : (W32 b == 0) = false := by simpa using nz
  have e3 := div_W32 a b
  clear hb
  go_enter Tryz.func43, Tryz.ntmps43
  go_wp2_with fail
  refine (check_ok _).mono ?_
  rintro _ w3 ⟨⟨u, rfl⟩, rfl⟩
  go_wp2_with fail
  go_ret
  exact ⟨ret_int e3, rfl⟩
theorem bin4_trap (a : W) (w : World) : Calls Tryz.prog 43 #[.int .u32 (W32 a), .int .u32 (W32 0#32)] w fun e w' => Traps e ∧ w' = w := by
  rw [show W32 0#32 = 0 from rfl]
  go_enter Tryz.func43, Tryz.ntmps43
  go_wp2_with fail
  refine (check_bad _).mono ?_
  rintro _ w3 ⟨rfl, rfl⟩
  exact ⟨rfl, traps_is, rfl⟩
set_option maxHeartbeats 1000000 in
theorem bin5_any (a b : W) (hb : b ≠ 0#32) (w : World) : Calls Tryz.prog 45 #[.int .u32 (W32 a), .int .u32 (W32 b)] w fun e w' => e = .returned (.int .u32 (W32 (a % b))) ∧ w' = w := by
  have nz := nz_W32 hb
  have e : (W32 b != 0) = true := by simpa using nz
  have e2 : (W32 b == 0) = false := by simpa using nz
  have e3 := mod_W32 a b
  clear hb
  go_enter Tryz.func45, Tryz.ntmps45
  go_wp2_with fail
  refine (check_ok _).mono ?_
  rintro _ w3 ⟨⟨u, rfl⟩, rfl⟩
  go_wp2_with fail
  go_ret
  exact ⟨ret_int e3, rfl⟩
theorem bin5_trap (a : W) (w : World) : Calls Tryz.prog 45 #[.int .u32 (W32 a), .int .u32 (W32 0#32)] w fun e w' => Traps e ∧ w' = w := by
  rw [show W32 0#32 = 0 from rfl]
  go_enter Tryz.func45, Tryz.ntmps45
  go_wp2_with fail
  refine (check_bad _).mono ?_
  rintro _ w3 ⟨rfl, rfl⟩
  exact ⟨rfl, traps_is, rfl⟩
set_option maxHeartbeats 1000000 in
theorem bin7_any (a b : W) (w : World) : Calls Tryz.prog 47 #[.int .u32 (W32 a), .int .u32 (W32 b)] w fun e w' => e = .returned (.int .u32 (W32 (if a.toNat < b.toNat then 1#32 else 0#32))) ∧ w' = w := by
  by_cases h : a.toNat < b.toNat
  · have f : decide (W32 a < W32 b) = true := by unfold W32; rw [decide_eq_true_iff]; omega
    rw [if_pos h, show W32 1#32 = 1 from rfl]
    clear h
    go_enter Tryz.func47, Tryz.ntmps47
    go_wp2_with fail
    go_ret
    exact ⟨rfl, rfl⟩
  · have f : decide (W32 a < W32 b) = false := by unfold W32; rw [decide_eq_false_iff_not]; omega
    rw [if_neg h, show W32 0#32 = 0 from rfl]
    clear h
    go_enter Tryz.func47, Tryz.ntmps47
    go_wp2_with fail
    go_ret
    exact ⟨rfl, rfl⟩
end Go.Proofs.YtojgopbaiflfgaaGreatDoor
