/- machine.execute at the signs with two operands; the traps of : and the dot. No condition. -/
import Derived.Test.YtojgopbaiflfgaaGreatDoorTpExecD
namespace Go.Proofs.YtojgopbaiflfgaaGreatDoor
set_option maxRecDepth 100000
open Go.RowKit Go.Shelf Go.Proofs.YtojgopbaiflfgaaGreatDoor.B2

theorem MIn.look {w : World} {base B M G k : Nat} {s : St} (h : MIn w base B M G s k) (c : Int) : w.cell? ⟨B, 9, none⟩ = some (.map (some G)) ∧ (Instr.lookup 77 (.map (some G)) (.int .u32 c) true).run Tryz.prog w = .ok (.tuple #[(lookL c binL).getD Value.nilFunc, .bool (lookL c binL).isSome]) w := by
  obtain ⟨dv, cv, iv, ov, h⟩ := h
  refine ⟨h.cell 9, ?_⟩
  have := h.bins.look Tryz.underlying77 (z := Value.nilFunc) (fun w => by kernel_rfl) c true
  rw [if_pos rfl] at this
  exact this
set_option maxHeartbeats 4000000 in
theorem ex43_any {w : World} {base B M G k : Nat} {s : St} (h : MIn w base B M G s k) (a b r : W) (d : List W) (hl : s.data = b :: a :: d) (hr : (a + b) = r) : Calls Tryz.prog 49 #[.pointer (some ⟨B, 0, none⟩), .int .u32 43] w fun e w' => (∃ u, e = .returned u) ∧ MIn w' base B M G { s with data := r :: d } k ∧ Mw base w w' := by
  have hdl : d.length < 256 := by have := h.le; rw [hl] at this; simp at this; omega
  have HP := Keep.mk (pop_any h b (a :: d) hl)
  obtain ⟨c9, hlk⟩ := h.look 43
  rw [show lookL (43 : Int) binL = some (binV 40) from rfl] at hlk
  simp only [Option.getD_some, Option.isSome_some, binV] at hlk
  have hBl := h.lt
  have HBIN := Keep.mk (fun w => bin1_any a b w)
  rw [hr] at HBIN
  clear h hl hr
  go_enter Tryz.func49, Tryz.ntmps49
  go_wp2_with fail
  refine (check_ok _).mono ?_
  rintro _ w2 ⟨⟨u, rfl⟩, rfl⟩
  go_wp2_with fail
  refine HP.out.mono ?_
  rintro _ w3 ⟨rfl, h3⟩
  have H3 := Keep.mk h3
  clear h3 HP hlk c9 hBl
  go_wp2_with fail
  refine (pop_any H3.out.1 a d rfl).mono ?_
  rintro _ w4 ⟨rfl, h4⟩
  have H4 := Keep.mk h4
  clear h4
  go_wp2_with fail
  refine (HBIN.out _).mono ?_
  rintro _ w5 ⟨rfl, rfl⟩
  go_wp2_with fail
  refine (push_any H4.out.1 r hdl).mono ?_
  rintro _ w6 ⟨⟨u2, rfl⟩, h6⟩
  have H6 := Keep.mk h6
  clear h6
  go_wp2_with fail
  go_end0
  exact ⟨⟨_, rfl⟩, H6.out.1, (H3.out.2.trans H4.out.2).trans H6.out.2⟩
set_option maxHeartbeats 4000000 in
theorem ex43_no {w : World} {base B M G k : Nat} {s : St} (h : MIn w base B M G s k) (hl : s.data = []) : Calls Tryz.prog 49 #[.pointer (some ⟨B, 0, none⟩), .int .u32 43] w (TrapEnd w base B M G k s) := by
  have HP := Keep.mk (pop_trap h hl)
  have H := Keep.mk h
  obtain ⟨c9, hlk⟩ := h.look 43
  rw [show lookL (43 : Int) binL = some (binV 40) from rfl] at hlk
  simp only [Option.getD_some, Option.isSome_some, binV] at hlk
  have hBl := h.lt
  clear h hl
  go_enter Tryz.func49, Tryz.ntmps49
  go_wp2_with fail
  refine (check_ok _).mono ?_
  rintro _ w2 ⟨⟨u, rfl⟩, rfl⟩
  go_wp2_with fail
  refine HP.out.mono ?_
  rintro _ w3 ⟨rfl, rfl⟩
  exact ⟨rfl, TrapEnd.same H.out traps_is⟩
set_option maxHeartbeats 4000000 in
theorem ex43_one {w : World} {base B M G k : Nat} {s : St} (h : MIn w base B M G s k) (b : W) (hl : s.data = [b]) : Calls Tryz.prog 49 #[.pointer (some ⟨B, 0, none⟩), .int .u32 43] w (TrapEnd w base B M G k s) := by
  have HP := Keep.mk (pop_any h b [] hl)
  obtain ⟨c9, hlk⟩ := h.look 43
  rw [show lookL (43 : Int) binL = some (binV 40) from rfl] at hlk
  simp only [Option.getD_some, Option.isSome_some, binV] at hlk
  have hBl := h.lt
  clear h hl
  go_enter Tryz.func49, Tryz.ntmps49
  go_wp2_with fail
  refine (check_ok _).mono ?_
  rintro _ w2 ⟨⟨u, rfl⟩, rfl⟩
  go_wp2_with fail
  refine HP.out.mono ?_
  rintro _ w3 ⟨rfl, h3⟩
  have H3 := Keep.mk h3
  clear h3 HP hlk c9 hBl
  go_wp2_with fail
  refine (pop_trap H3.out.1 rfl).mono ?_
  rintro _ w4 ⟨rfl, rfl⟩
  exact ⟨rfl, traps_is, ⟨{ s with data := [] }, rfl, H3.out.1⟩, H3.out.2⟩
set_option maxHeartbeats 4000000 in
theorem ex45_any {w : World} {base B M G k : Nat} {s : St} (h : MIn w base B M G s k) (a b r : W) (d : List W) (hl : s.data = b :: a :: d) (hr : (a - b) = r) : Calls Tryz.prog 49 #[.pointer (some ⟨B, 0, none⟩), .int .u32 45] w fun e w' => (∃ u, e = .returned u) ∧ MIn w' base B M G { s with data := r :: d } k ∧ Mw base w w' := by
  have hdl : d.length < 256 := by have := h.le; rw [hl] at this; simp at this; omega
  have HP := Keep.mk (pop_any h b (a :: d) hl)
  obtain ⟨c9, hlk⟩ := h.look 45
  rw [show lookL (45 : Int) binL = some (binV 41) from rfl] at hlk
  simp only [Option.getD_some, Option.isSome_some, binV] at hlk
  have hBl := h.lt
  have HBIN := Keep.mk (fun w => bin2_any a b w)
  rw [hr] at HBIN
  clear h hl hr
  go_enter Tryz.func49, Tryz.ntmps49
  go_wp2_with fail
  refine (check_ok _).mono ?_
  rintro _ w2 ⟨⟨u, rfl⟩, rfl⟩
  go_wp2_with fail
  refine HP.out.mono ?_
  rintro _ w3 ⟨rfl, h3⟩
  have H3 := Keep.mk h3
  clear h3 HP hlk c9 hBl
  go_wp2_with fail
  refine (pop_any H3.out.1 a d rfl).mono ?_
  rintro _ w4 ⟨rfl, h4⟩
  have H4 := Keep.mk h4
  clear h4
  go_wp2_with fail
  refine (HBIN.out _).mono ?_
  rintro _ w5 ⟨rfl, rfl⟩
  go_wp2_with fail
  refine (push_any H4.out.1 r hdl).mono ?_
  rintro _ w6 ⟨⟨u2, rfl⟩, h6⟩
  have H6 := Keep.mk h6
  clear h6
  go_wp2_with fail
  go_end0
  exact ⟨⟨_, rfl⟩, H6.out.1, (H3.out.2.trans H4.out.2).trans H6.out.2⟩
set_option maxHeartbeats 4000000 in
theorem ex45_no {w : World} {base B M G k : Nat} {s : St} (h : MIn w base B M G s k) (hl : s.data = []) : Calls Tryz.prog 49 #[.pointer (some ⟨B, 0, none⟩), .int .u32 45] w (TrapEnd w base B M G k s) := by
  have HP := Keep.mk (pop_trap h hl)
  have H := Keep.mk h
  obtain ⟨c9, hlk⟩ := h.look 45
  rw [show lookL (45 : Int) binL = some (binV 41) from rfl] at hlk
  simp only [Option.getD_some, Option.isSome_some, binV] at hlk
  have hBl := h.lt
  clear h hl
  go_enter Tryz.func49, Tryz.ntmps49
  go_wp2_with fail
  refine (check_ok _).mono ?_
  rintro _ w2 ⟨⟨u, rfl⟩, rfl⟩
  go_wp2_with fail
  refine HP.out.mono ?_
  rintro _ w3 ⟨rfl, rfl⟩
  exact ⟨rfl, TrapEnd.same H.out traps_is⟩
set_option maxHeartbeats 4000000 in
theorem ex45_one {w : World} {base B M G k : Nat} {s : St} (h : MIn w base B M G s k) (b : W) (hl : s.data = [b]) : Calls Tryz.prog 49 #[.pointer (some ⟨B, 0, none⟩), .int .u32 45] w (TrapEnd w base B M G k s) := by
  have HP := Keep.mk (pop_any h b [] hl)
  obtain ⟨c9, hlk⟩ := h.look 45
  rw [show lookL (45 : Int) binL = some (binV 41) from rfl] at hlk
  simp only [Option.getD_some, Option.isSome_some, binV] at hlk
  have hBl := h.lt
  clear h hl
  go_enter Tryz.func49, Tryz.ntmps49
  go_wp2_with fail
  refine (check_ok _).mono ?_
  rintro _ w2 ⟨⟨u, rfl⟩, rfl⟩
  go_wp2_with fail
  refine HP.out.mono ?_
  rintro _ w3 ⟨rfl, h3⟩
  have H3 := Keep.mk h3
  clear h3 HP hlk c9 hBl
  go_wp2_with fail
  refine (pop_trap H3.out.1 rfl).mono ?_
  rintro _ w4 ⟨rfl, rfl⟩
  exact ⟨rfl, traps_is, ⟨{ s with data := [] }, rfl, H3.out.1⟩, H3.out.2⟩
set_option maxHeartbeats 4000000 in
theorem ex42_any {w : World} {base B M G k : Nat} {s : St} (h : MIn w base B M G s k) (a b r : W) (d : List W) (hl : s.data = b :: a :: d) (hr : (a * b) = r) : Calls Tryz.prog 49 #[.pointer (some ⟨B, 0, none⟩), .int .u32 42] w fun e w' => (∃ u, e = .returned u) ∧ MIn w' base B M G { s with data := r :: d } k ∧ Mw base w w' := by
  have hdl : d.length < 256 := by have := h.le; rw [hl] at this; simp at this; omega
  have HP := Keep.mk (pop_any h b (a :: d) hl)
  obtain ⟨c9, hlk⟩ := h.look 42
  rw [show lookL (42 : Int) binL = some (binV 42) from rfl] at hlk
  simp only [Option.getD_some, Option.isSome_some, binV] at hlk
  have hBl := h.lt
  have HBIN := Keep.mk (fun w => bin3_any a b w)
  rw [hr] at HBIN
  clear h hl hr
  go_enter Tryz.func49, Tryz.ntmps49
  go_wp2_with fail
  refine (check_ok _).mono ?_
  rintro _ w2 ⟨⟨u, rfl⟩, rfl⟩
  go_wp2_with fail
  refine HP.out.mono ?_
  rintro _ w3 ⟨rfl, h3⟩
  have H3 := Keep.mk h3
  clear h3 HP hlk c9 hBl
  go_wp2_with fail
  refine (pop_any H3.out.1 a d rfl).mono ?_
  rintro _ w4 ⟨rfl, h4⟩
  have H4 := Keep.mk h4
  clear h4
  go_wp2_with fail
  refine (HBIN.out _).mono ?_
  rintro _ w5 ⟨rfl, rfl⟩
  go_wp2_with fail
  refine (push_any H4.out.1 r hdl).mono ?_
  rintro _ w6 ⟨⟨u2, rfl⟩, h6⟩
  have H6 := Keep.mk h6
  clear h6
  go_wp2_with fail
  go_end0
  exact ⟨⟨_, rfl⟩, H6.out.1, (H3.out.2.trans H4.out.2).trans H6.out.2⟩
set_option maxHeartbeats 4000000 in
theorem ex42_no {w : World} {base B M G k : Nat} {s : St} (h : MIn w base B M G s k) (hl : s.data = []) : Calls Tryz.prog 49 #[.pointer (some ⟨B, 0, none⟩), .int .u32 42] w (TrapEnd w base B M G k s) := by
  have HP := Keep.mk (pop_trap h hl)
  have H := Keep.mk h
  obtain ⟨c9, hlk⟩ := h.look 42
  rw [show lookL (42 : Int) binL = some (binV 42) from rfl] at hlk
  simp only [Option.getD_some, Option.isSome_some, binV] at hlk
  have hBl := h.lt
  clear h hl
  go_enter Tryz.func49, Tryz.ntmps49
  go_wp2_with fail
  refine (check_ok _).mono ?_
  rintro _ w2 ⟨⟨u, rfl⟩, rfl⟩
  go_wp2_with fail
  refine HP.out.mono ?_
  rintro _ w3 ⟨rfl, rfl⟩
  exact ⟨rfl, TrapEnd.same H.out traps_is⟩
set_option maxHeartbeats 4000000 in
theorem ex42_one {w : World} {base B M G k : Nat} {s : St} (h : MIn w base B M G s k) (b : W) (hl : s.data = [b]) : Calls Tryz.prog 49 #[.pointer (some ⟨B, 0, none⟩), .int .u32 42] w (TrapEnd w base B M G k s) := by
  have HP := Keep.mk (pop_any h b [] hl)
  obtain ⟨c9, hlk⟩ := h.look 42
  rw [show lookL (42 : Int) binL = some (binV 42) from rfl] at hlk
  simp only [Option.getD_some, Option.isSome_some, binV] at hlk
  have hBl := h.lt
  clear h hl
  go_enter Tryz.func49, Tryz.ntmps49
  go_wp2_with fail
  refine (check_ok _).mono ?_
  rintro _ w2 ⟨⟨u, rfl⟩, rfl⟩
  go_wp2_with fail
  refine HP.out.mono ?_
  rintro _ w3 ⟨rfl, h3⟩
  have H3 := Keep.mk h3
  clear h3 HP hlk c9 hBl
  go_wp2_with fail
  refine (pop_trap H3.out.1 rfl).mono ?_
  rintro _ w4 ⟨rfl, rfl⟩
  exact ⟨rfl, traps_is, ⟨{ s with data := [] }, rfl, H3.out.1⟩, H3.out.2⟩
set_option maxHeartbeats 4000000 in
theorem ex47_any {w : World} {base B M G k : Nat} {s : St} (h : MIn w base B M G s k) (a b r : W) (d : List W) (hl : s.data = b :: a :: d) (hb : b ≠ 0#32) (hr : (a / b) = r) : Calls Tryz.prog 49 #[.pointer (some ⟨B, 0, none⟩), .int .u32 47] w fun e w' => (∃ u, e = .returned u) ∧ MIn w' base B M G { s with data := r :: d } k ∧ Mw base w w' := by
  have hdl : d.length < 256 := by have := h.le; rw [hl] at this; simp at this; omega
  have HP := Keep.mk (pop_any h b (a :: d) hl)
  obtain ⟨c9, hlk⟩ := h.look 47
  rw [show lookL (47 : Int) binL = some (binV 43) from rfl] at hlk
  simp only [Option.getD_some, Option.isSome_some, binV] at hlk
  have hBl := h.lt
  have HBIN := Keep.mk (fun w => bin4_any a b hb w)
  rw [hr] at HBIN
  clear h hl hb hr
  go_enter Tryz.func49, Tryz.ntmps49
  go_wp2_with fail
  refine (check_ok _).mono ?_
  rintro _ w2 ⟨⟨u, rfl⟩, rfl⟩
  go_wp2_with fail
  refine HP.out.mono ?_
  rintro _ w3 ⟨rfl, h3⟩
  have H3 := Keep.mk h3
  clear h3 HP hlk c9 hBl
  go_wp2_with fail
  refine (pop_any H3.out.1 a d rfl).mono ?_
  rintro _ w4 ⟨rfl, h4⟩
  have H4 := Keep.mk h4
  clear h4
  go_wp2_with fail
  refine (HBIN.out _).mono ?_
  rintro _ w5 ⟨rfl, rfl⟩
  go_wp2_with fail
  refine (push_any H4.out.1 r hdl).mono ?_
  rintro _ w6 ⟨⟨u2, rfl⟩, h6⟩
  have H6 := Keep.mk h6
  clear h6
  go_wp2_with fail
  go_end0
  exact ⟨⟨_, rfl⟩, H6.out.1, (H3.out.2.trans H4.out.2).trans H6.out.2⟩
set_option maxHeartbeats 4000000 in
theorem ex47_no {w : World} {base B M G k : Nat} {s : St} (h : MIn w base B M G s k) (hl : s.data = []) : Calls Tryz.prog 49 #[.pointer (some ⟨B, 0, none⟩), .int .u32 47] w (TrapEnd w base B M G k s) := by
  have HP := Keep.mk (pop_trap h hl)
  have H := Keep.mk h
  obtain ⟨c9, hlk⟩ := h.look 47
  rw [show lookL (47 : Int) binL = some (binV 43) from rfl] at hlk
  simp only [Option.getD_some, Option.isSome_some, binV] at hlk
  have hBl := h.lt
  clear h hl
  go_enter Tryz.func49, Tryz.ntmps49
  go_wp2_with fail
  refine (check_ok _).mono ?_
  rintro _ w2 ⟨⟨u, rfl⟩, rfl⟩
  go_wp2_with fail
  refine HP.out.mono ?_
  rintro _ w3 ⟨rfl, rfl⟩
  exact ⟨rfl, TrapEnd.same H.out traps_is⟩
set_option maxHeartbeats 4000000 in
theorem ex47_one {w : World} {base B M G k : Nat} {s : St} (h : MIn w base B M G s k) (b : W) (hl : s.data = [b]) : Calls Tryz.prog 49 #[.pointer (some ⟨B, 0, none⟩), .int .u32 47] w (TrapEnd w base B M G k s) := by
  have HP := Keep.mk (pop_any h b [] hl)
  obtain ⟨c9, hlk⟩ := h.look 47
  rw [show lookL (47 : Int) binL = some (binV 43) from rfl] at hlk
  simp only [Option.getD_some, Option.isSome_some, binV] at hlk
  have hBl := h.lt
  clear h hl
  go_enter Tryz.func49, Tryz.ntmps49
  go_wp2_with fail
  refine (check_ok _).mono ?_
  rintro _ w2 ⟨⟨u, rfl⟩, rfl⟩
  go_wp2_with fail
  refine HP.out.mono ?_
  rintro _ w3 ⟨rfl, h3⟩
  have H3 := Keep.mk h3
  clear h3 HP hlk c9 hBl
  go_wp2_with fail
  refine (pop_trap H3.out.1 rfl).mono ?_
  rintro _ w4 ⟨rfl, rfl⟩
  exact ⟨rfl, traps_is, ⟨{ s with data := [] }, rfl, H3.out.1⟩, H3.out.2⟩
set_option maxHeartbeats 4000000 in
theorem ex47_zero {w : World} {base B M G k : Nat} {s : St} (h : MIn w base B M G s k) (a : W) (d : List W) (hl : s.data = 0#32 :: a :: d) : Calls Tryz.prog 49 #[.pointer (some ⟨B, 0, none⟩), .int .u32 47] w (TrapEnd w base B M G k s) := by
  have HP := Keep.mk (pop_any h 0#32 (a :: d) hl)
  obtain ⟨c9, hlk⟩ := h.look 47
  rw [show lookL (47 : Int) binL = some (binV 43) from rfl] at hlk
  simp only [Option.getD_some, Option.isSome_some, binV] at hlk
  have hBl := h.lt
  have HBIN := Keep.mk (fun w => bin4_trap a w)
  rw [show W32 0#32 = 0 from rfl] at HBIN HP
  clear h hl
  go_enter Tryz.func49, Tryz.ntmps49
  go_wp2_with fail
  refine (check_ok _).mono ?_
  rintro _ w2 ⟨⟨u, rfl⟩, rfl⟩
  go_wp2_with fail
  refine HP.out.mono ?_
  rintro _ w3 ⟨rfl, h3⟩
  have H3 := Keep.mk h3
  clear h3 HP hlk c9 hBl
  go_wp2_with fail
  refine (pop_any H3.out.1 a d rfl).mono ?_
  rintro _ w4 ⟨rfl, h4⟩
  have H4 := Keep.mk h4
  clear h4
  go_wp2_with fail
  refine (HBIN.out _).mono ?_
  rintro _ w5 ⟨rfl, rfl⟩
  exact ⟨rfl, traps_is, ⟨{ s with data := d }, rfl, H4.out.1⟩, H3.out.2.trans H4.out.2⟩
set_option maxHeartbeats 4000000 in
theorem ex37_any {w : World} {base B M G k : Nat} {s : St} (h : MIn w base B M G s k) (a b r : W) (d : List W) (hl : s.data = b :: a :: d) (hb : b ≠ 0#32) (hr : (a % b) = r) : Calls Tryz.prog 49 #[.pointer (some ⟨B, 0, none⟩), .int .u32 37] w fun e w' => (∃ u, e = .returned u) ∧ MIn w' base B M G { s with data := r :: d } k ∧ Mw base w w' := by
  have hdl : d.length < 256 := by have := h.le; rw [hl] at this; simp at this; omega
  have HP := Keep.mk (pop_any h b (a :: d) hl)
  obtain ⟨c9, hlk⟩ := h.look 37
  rw [show lookL (37 : Int) binL = some (binV 45) from rfl] at hlk
  simp only [Option.getD_some, Option.isSome_some, binV] at hlk
  have hBl := h.lt
  have HBIN := Keep.mk (fun w => bin5_any a b hb w)
  rw [hr] at HBIN
  clear h hl hb hr
  go_enter Tryz.func49, Tryz.ntmps49
  go_wp2_with fail
  refine (check_ok _).mono ?_
  rintro _ w2 ⟨⟨u, rfl⟩, rfl⟩
  go_wp2_with fail
  refine HP.out.mono ?_
  rintro _ w3 ⟨rfl, h3⟩
  have H3 := Keep.mk h3
  clear h3 HP hlk c9 hBl
  go_wp2_with fail
  refine (pop_any H3.out.1 a d rfl).mono ?_
  rintro _ w4 ⟨rfl, h4⟩
  have H4 := Keep.mk h4
  clear h4
  go_wp2_with fail
  refine (HBIN.out _).mono ?_
  rintro _ w5 ⟨rfl, rfl⟩
  go_wp2_with fail
  refine (push_any H4.out.1 r hdl).mono ?_
  rintro _ w6 ⟨⟨u2, rfl⟩, h6⟩
  have H6 := Keep.mk h6
  clear h6
  go_wp2_with fail
  go_end0
  exact ⟨⟨_, rfl⟩, H6.out.1, (H3.out.2.trans H4.out.2).trans H6.out.2⟩
set_option maxHeartbeats 4000000 in
theorem ex37_no {w : World} {base B M G k : Nat} {s : St} (h : MIn w base B M G s k) (hl : s.data = []) : Calls Tryz.prog 49 #[.pointer (some ⟨B, 0, none⟩), .int .u32 37] w (TrapEnd w base B M G k s) := by
  have HP := Keep.mk (pop_trap h hl)
  have H := Keep.mk h
  obtain ⟨c9, hlk⟩ := h.look 37
  rw [show lookL (37 : Int) binL = some (binV 45) from rfl] at hlk
  simp only [Option.getD_some, Option.isSome_some, binV] at hlk
  have hBl := h.lt
  clear h hl
  go_enter Tryz.func49, Tryz.ntmps49
  go_wp2_with fail
  refine (check_ok _).mono ?_
  rintro _ w2 ⟨⟨u, rfl⟩, rfl⟩
  go_wp2_with fail
  refine HP.out.mono ?_
  rintro _ w3 ⟨rfl, rfl⟩
  exact ⟨rfl, TrapEnd.same H.out traps_is⟩
set_option maxHeartbeats 4000000 in
theorem ex37_one {w : World} {base B M G k : Nat} {s : St} (h : MIn w base B M G s k) (b : W) (hl : s.data = [b]) : Calls Tryz.prog 49 #[.pointer (some ⟨B, 0, none⟩), .int .u32 37] w (TrapEnd w base B M G k s) := by
  have HP := Keep.mk (pop_any h b [] hl)
  obtain ⟨c9, hlk⟩ := h.look 37
  rw [show lookL (37 : Int) binL = some (binV 45) from rfl] at hlk
  simp only [Option.getD_some, Option.isSome_some, binV] at hlk
  have hBl := h.lt
  clear h hl
  go_enter Tryz.func49, Tryz.ntmps49
  go_wp2_with fail
  refine (check_ok _).mono ?_
  rintro _ w2 ⟨⟨u, rfl⟩, rfl⟩
  go_wp2_with fail
  refine HP.out.mono ?_
  rintro _ w3 ⟨rfl, h3⟩
  have H3 := Keep.mk h3
  clear h3 HP hlk c9 hBl
  go_wp2_with fail
  refine (pop_trap H3.out.1 rfl).mono ?_
  rintro _ w4 ⟨rfl, rfl⟩
  exact ⟨rfl, traps_is, ⟨{ s with data := [] }, rfl, H3.out.1⟩, H3.out.2⟩
set_option maxHeartbeats 4000000 in
theorem ex37_zero {w : World} {base B M G k : Nat} {s : St} (h : MIn w base B M G s k) (a : W) (d : List W) (hl : s.data = 0#32 :: a :: d) : Calls Tryz.prog 49 #[.pointer (some ⟨B, 0, none⟩), .int .u32 37] w (TrapEnd w base B M G k s) := by
  have HP := Keep.mk (pop_any h 0#32 (a :: d) hl)
  obtain ⟨c9, hlk⟩ := h.look 37
  rw [show lookL (37 : Int) binL = some (binV 45) from rfl] at hlk
  simp only [Option.getD_some, Option.isSome_some, binV] at hlk
  have hBl := h.lt
  have HBIN := Keep.mk (fun w => bin5_trap a w)
  rw [show W32 0#32 = 0 from rfl] at HBIN HP
  clear h hl
  go_enter Tryz.func49, Tryz.ntmps49
  go_wp2_with fail
  refine (check_ok _).mono ?_
  rintro _ w2 ⟨⟨u, rfl⟩, rfl⟩
  go_wp2_with fail
  refine HP.out.mono ?_
  rintro _ w3 ⟨rfl, h3⟩
  have H3 := Keep.mk h3
  clear h3 HP hlk c9 hBl
  go_wp2_with fail
  refine (pop_any H3.out.1 a d rfl).mono ?_
  rintro _ w4 ⟨rfl, h4⟩
  have H4 := Keep.mk h4
  clear h4
  go_wp2_with fail
  refine (HBIN.out _).mono ?_
  rintro _ w5 ⟨rfl, rfl⟩
  exact ⟨rfl, traps_is, ⟨{ s with data := d }, rfl, H4.out.1⟩, H3.out.2.trans H4.out.2⟩
set_option maxHeartbeats 4000000 in
theorem ex94_any {w : World} {base B M G k : Nat} {s : St} (h : MIn w base B M G s k) (a b r : W) (d : List W) (hl : s.data = b :: a :: d) (hr : (a ^^^ b) = r) : Calls Tryz.prog 49 #[.pointer (some ⟨B, 0, none⟩), .int .u32 94] w fun e w' => (∃ u, e = .returned u) ∧ MIn w' base B M G { s with data := r :: d } k ∧ Mw base w w' := by
  have hdl : d.length < 256 := by have := h.le; rw [hl] at this; simp at this; omega
  have HP := Keep.mk (pop_any h b (a :: d) hl)
  obtain ⟨c9, hlk⟩ := h.look 94
  rw [show lookL (94 : Int) binL = some (binV 46) from rfl] at hlk
  simp only [Option.getD_some, Option.isSome_some, binV] at hlk
  have hBl := h.lt
  have HBIN := Keep.mk (fun w => bin6_any a b w)
  rw [hr] at HBIN
  clear h hl hr
  go_enter Tryz.func49, Tryz.ntmps49
  go_wp2_with fail
  refine (check_ok _).mono ?_
  rintro _ w2 ⟨⟨u, rfl⟩, rfl⟩
  go_wp2_with fail
  refine HP.out.mono ?_
  rintro _ w3 ⟨rfl, h3⟩
  have H3 := Keep.mk h3
  clear h3 HP hlk c9 hBl
  go_wp2_with fail
  refine (pop_any H3.out.1 a d rfl).mono ?_
  rintro _ w4 ⟨rfl, h4⟩
  have H4 := Keep.mk h4
  clear h4
  go_wp2_with fail
  refine (HBIN.out _).mono ?_
  rintro _ w5 ⟨rfl, rfl⟩
  go_wp2_with fail
  refine (push_any H4.out.1 r hdl).mono ?_
  rintro _ w6 ⟨⟨u2, rfl⟩, h6⟩
  have H6 := Keep.mk h6
  clear h6
  go_wp2_with fail
  go_end0
  exact ⟨⟨_, rfl⟩, H6.out.1, (H3.out.2.trans H4.out.2).trans H6.out.2⟩
set_option maxHeartbeats 4000000 in
theorem ex94_no {w : World} {base B M G k : Nat} {s : St} (h : MIn w base B M G s k) (hl : s.data = []) : Calls Tryz.prog 49 #[.pointer (some ⟨B, 0, none⟩), .int .u32 94] w (TrapEnd w base B M G k s) := by
  have HP := Keep.mk (pop_trap h hl)
  have H := Keep.mk h
  obtain ⟨c9, hlk⟩ := h.look 94
  rw [show lookL (94 : Int) binL = some (binV 46) from rfl] at hlk
  simp only [Option.getD_some, Option.isSome_some, binV] at hlk
  have hBl := h.lt
  clear h hl
  go_enter Tryz.func49, Tryz.ntmps49
  go_wp2_with fail
  refine (check_ok _).mono ?_
  rintro _ w2 ⟨⟨u, rfl⟩, rfl⟩
  go_wp2_with fail
  refine HP.out.mono ?_
  rintro _ w3 ⟨rfl, rfl⟩
  exact ⟨rfl, TrapEnd.same H.out traps_is⟩
set_option maxHeartbeats 4000000 in
theorem ex94_one {w : World} {base B M G k : Nat} {s : St} (h : MIn w base B M G s k) (b : W) (hl : s.data = [b]) : Calls Tryz.prog 49 #[.pointer (some ⟨B, 0, none⟩), .int .u32 94] w (TrapEnd w base B M G k s) := by
  have HP := Keep.mk (pop_any h b [] hl)
  obtain ⟨c9, hlk⟩ := h.look 94
  rw [show lookL (94 : Int) binL = some (binV 46) from rfl] at hlk
  simp only [Option.getD_some, Option.isSome_some, binV] at hlk
  have hBl := h.lt
  clear h hl
  go_enter Tryz.func49, Tryz.ntmps49
  go_wp2_with fail
  refine (check_ok _).mono ?_
  rintro _ w2 ⟨⟨u, rfl⟩, rfl⟩
  go_wp2_with fail
  refine HP.out.mono ?_
  rintro _ w3 ⟨rfl, h3⟩
  have H3 := Keep.mk h3
  clear h3 HP hlk c9 hBl
  go_wp2_with fail
  refine (pop_trap H3.out.1 rfl).mono ?_
  rintro _ w4 ⟨rfl, rfl⟩
  exact ⟨rfl, traps_is, ⟨{ s with data := [] }, rfl, H3.out.1⟩, H3.out.2⟩
set_option maxHeartbeats 4000000 in
theorem ex60_any {w : World} {base B M G k : Nat} {s : St} (h : MIn w base B M G s k) (a b r : W) (d : List W) (hl : s.data = b :: a :: d) (hr : (if a.toNat < b.toNat then 1#32 else 0#32) = r) : Calls Tryz.prog 49 #[.pointer (some ⟨B, 0, none⟩), .int .u32 60] w fun e w' => (∃ u, e = .returned u) ∧ MIn w' base B M G { s with data := r :: d } k ∧ Mw base w w' := by
  have hdl : d.length < 256 := by have := h.le; rw [hl] at this; simp at this; omega
  have HP := Keep.mk (pop_any h b (a :: d) hl)
  obtain ⟨c9, hlk⟩ := h.look 60
  rw [show lookL (60 : Int) binL = some (binV 47) from rfl] at hlk
  simp only [Option.getD_some, Option.isSome_some, binV] at hlk
  have hBl := h.lt
  have HBIN := Keep.mk (fun w => bin7_any a b w)
  rw [hr] at HBIN
  clear h hl hr
  go_enter Tryz.func49, Tryz.ntmps49
  go_wp2_with fail
  refine (check_ok _).mono ?_
  rintro _ w2 ⟨⟨u, rfl⟩, rfl⟩
  go_wp2_with fail
  refine HP.out.mono ?_
  rintro _ w3 ⟨rfl, h3⟩
  have H3 := Keep.mk h3
  clear h3 HP hlk c9 hBl
  go_wp2_with fail
  refine (pop_any H3.out.1 a d rfl).mono ?_
  rintro _ w4 ⟨rfl, h4⟩
  have H4 := Keep.mk h4
  clear h4
  go_wp2_with fail
  refine (HBIN.out _).mono ?_
  rintro _ w5 ⟨rfl, rfl⟩
  go_wp2_with fail
  refine (push_any H4.out.1 r hdl).mono ?_
  rintro _ w6 ⟨⟨u2, rfl⟩, h6⟩
  have H6 := Keep.mk h6
  clear h6
  go_wp2_with fail
  go_end0
  exact ⟨⟨_, rfl⟩, H6.out.1, (H3.out.2.trans H4.out.2).trans H6.out.2⟩
set_option maxHeartbeats 4000000 in
theorem ex60_no {w : World} {base B M G k : Nat} {s : St} (h : MIn w base B M G s k) (hl : s.data = []) : Calls Tryz.prog 49 #[.pointer (some ⟨B, 0, none⟩), .int .u32 60] w (TrapEnd w base B M G k s) := by
  have HP := Keep.mk (pop_trap h hl)
  have H := Keep.mk h
  obtain ⟨c9, hlk⟩ := h.look 60
  rw [show lookL (60 : Int) binL = some (binV 47) from rfl] at hlk
  simp only [Option.getD_some, Option.isSome_some, binV] at hlk
  have hBl := h.lt
  clear h hl
  go_enter Tryz.func49, Tryz.ntmps49
  go_wp2_with fail
  refine (check_ok _).mono ?_
  rintro _ w2 ⟨⟨u, rfl⟩, rfl⟩
  go_wp2_with fail
  refine HP.out.mono ?_
  rintro _ w3 ⟨rfl, rfl⟩
  exact ⟨rfl, TrapEnd.same H.out traps_is⟩
set_option maxHeartbeats 4000000 in
theorem ex60_one {w : World} {base B M G k : Nat} {s : St} (h : MIn w base B M G s k) (b : W) (hl : s.data = [b]) : Calls Tryz.prog 49 #[.pointer (some ⟨B, 0, none⟩), .int .u32 60] w (TrapEnd w base B M G k s) := by
  have HP := Keep.mk (pop_any h b [] hl)
  obtain ⟨c9, hlk⟩ := h.look 60
  rw [show lookL (60 : Int) binL = some (binV 47) from rfl] at hlk
  simp only [Option.getD_some, Option.isSome_some, binV] at hlk
  have hBl := h.lt
  clear h hl
  go_enter Tryz.func49, Tryz.ntmps49
  go_wp2_with fail
  refine (check_ok _).mono ?_
  rintro _ w2 ⟨⟨u, rfl⟩, rfl⟩
  go_wp2_with fail
  refine HP.out.mono ?_
  rintro _ w3 ⟨rfl, h3⟩
  have H3 := Keep.mk h3
  clear h3 HP hlk c9 hBl
  go_wp2_with fail
  refine (pop_trap H3.out.1 rfl).mono ?_
  rintro _ w4 ⟨rfl, rfl⟩
  exact ⟨rfl, traps_is, ⟨{ s with data := [] }, rfl, H3.out.1⟩, H3.out.2⟩
set_option maxHeartbeats 8000000 in
theorem exElse {w : World} {base B M G k : Nat} {s : St} (h : MIn w base B M G s k) (c : W) (hc : c.toNat ∉ [48, 49, 50, 51, 52, 53, 54, 55, 56, 57, 32, 10, 64, 33, 63, 58, 59, 44, 46, 36, 43, 45, 42, 47, 37, 94, 60]) : Calls Tryz.prog 49 #[.pointer (some ⟨B, 0, none⟩), .int .u32 (W32 c)] w (TrapEnd w base B M G k s) := by
  have hne : ∀ n : Nat, n ∈ [48, 49, 50, 51, 52, 53, 54, 55, 56, 57, 32, 10, 64, 33, 63, 58, 59, 44, 46, 36, 43, 45, 42, 47, 37, 94, 60] → W32 c ≠ (n : Int) := fun n hn e => by
    unfold W32 at e
    exact hc (by rw [show c.toNat = n by omega]; exact hn)
  have t48 : (W32 c == 48) = false := by simpa using hne 48 (by decide)
  have t49 : (W32 c == 49) = false := by simpa using hne 49 (by decide)
  have t50 : (W32 c == 50) = false := by simpa using hne 50 (by decide)
  have t51 : (W32 c == 51) = false := by simpa using hne 51 (by decide)
  have t52 : (W32 c == 52) = false := by simpa using hne 52 (by decide)
  have t53 : (W32 c == 53) = false := by simpa using hne 53 (by decide)
  have t54 : (W32 c == 54) = false := by simpa using hne 54 (by decide)
  have t55 : (W32 c == 55) = false := by simpa using hne 55 (by decide)
  have t56 : (W32 c == 56) = false := by simpa using hne 56 (by decide)
  have t57 : (W32 c == 57) = false := by simpa using hne 57 (by decide)
  have t32 : (W32 c == 32) = false := by simpa using hne 32 (by decide)
  have t10 : (W32 c == 10) = false := by simpa using hne 10 (by decide)
  have t64 : (W32 c == 64) = false := by simpa using hne 64 (by decide)
  have t33 : (W32 c == 33) = false := by simpa using hne 33 (by decide)
  have t63 : (W32 c == 63) = false := by simpa using hne 63 (by decide)
  have t58 : (W32 c == 58) = false := by simpa using hne 58 (by decide)
  have t59 : (W32 c == 59) = false := by simpa using hne 59 (by decide)
  have t44 : (W32 c == 44) = false := by simpa using hne 44 (by decide)
  have t46 : (W32 c == 46) = false := by simpa using hne 46 (by decide)
  have t36 : (W32 c == 36) = false := by simpa using hne 36 (by decide)
  obtain ⟨c9, hlk⟩ := h.look (W32 c)
  have hno : lookL (W32 c) binL = none := by
    unfold binL
    simp only [lookL]
    rw [if_neg (show ¬ W32 c = 43 from hne 43 (by decide)), if_neg (show ¬ W32 c = 45 from hne 45 (by decide)), if_neg (show ¬ W32 c = 42 from hne 42 (by decide)), if_neg (show ¬ W32 c = 47 from hne 47 (by decide)), if_neg (show ¬ W32 c = 37 from hne 37 (by decide)), if_neg (show ¬ W32 c = 94 from hne 94 (by decide)), if_neg (show ¬ W32 c = 60 from hne 60 (by decide))]
  rw [hno] at hlk
  simp only [Option.getD_none, Option.isSome_none] at hlk
  have H := Keep.mk h
  have hBl := h.lt
  clear h hc hne hno
  go_enter Tryz.func49, Tryz.ntmps49
  go_wp2_with fail
  refine (check_bad _).mono ?_
  rintro _ w2 ⟨rfl, rfl⟩
  exact ⟨rfl, TrapEnd.same H.out traps_is⟩
set_option maxHeartbeats 4000000 in
theorem ex58_no {w : World} {base B M G k : Nat} {s : St} (h : MIn w base B M G s k) (hl : s.data = []) : Calls Tryz.prog 49 #[.pointer (some ⟨B, 0, none⟩), .int .u32 58] w (TrapEnd w base B M G k s) := by
  have HP := Keep.mk (pop_trap h hl)
  have H := Keep.mk h
  clear h hl
  go_enter Tryz.func49, Tryz.ntmps49
  go_wp2_with fail
  refine HP.out.mono ?_
  rintro _ w3 ⟨rfl, rfl⟩
  exact ⟨rfl, TrapEnd.same H.out traps_is⟩
set_option maxHeartbeats 4000000 in
theorem ex58_full {w : World} {base B M G k : Nat} {s : St} (h : MIn w base B M G s k) (t : W) (d : List W) (hl : s.data = t :: d) (hc : 64 ≤ s.calls.length) : Calls Tryz.prog 49 #[.pointer (some ⟨B, 0, none⟩), .int .u32 58] w (TrapEnd w base B M G k s) := by
  have HA := Keep.mk (pop_any h t d hl)
  clear h
  go_enter Tryz.func49, Tryz.ntmps49
  go_wp2_with fail
  refine HA.out.mono ?_
  rintro _ w2 ⟨rfl, h2⟩
  have H2 := Keep.mk h2
  obtain ⟨dv, cv, iv, ov, h3⟩ := h2.1
  obtain ⟨ca, cc, rfl⟩ := ownsRow_slice h3.calls
  have hBl := h3.lt
  have c64 : s.calls.length ≤ 64 := h3.c64
  have c3 : w2.cell? ⟨B, 3, none⟩ = some (.slice ca s.calls.length cc) := h3.cell 3
  have f1 : decide ((s.calls.length : Int) < 64) = false := by rw [decide_eq_false_iff_not]; omega
  clear h2 h3 HA hl
  go_wp2_with fail
  refine (check_bad _).mono ?_
  rintro _ w3 ⟨rfl, rfl⟩
  exact ⟨rfl, traps_is, ⟨{ s with data := d }, rfl, H2.out.1⟩, H2.out.2⟩
def esT (B : Nat) : List (Option Value) := [some (.pointer (some ⟨B, 0, none⟩)), some (.pointer (some ⟨B, 0, none⟩)), some (.pointer (some ⟨B, 0, none⟩)), some (.pointer (some ⟨B, 5, none⟩)), none, some (.pointer (some ⟨B, 0, none⟩))]
theorem MIn.out5 {w : World} {base B M G k : Nat} {s : St} (h : MIn w base B M G s k) : (∃ a n c, w.cell? ⟨B, 5, none⟩ = some (.slice a n c)) ∧ B < w.heap.size := by
  obtain ⟨dv, cv, iv, ov, h⟩ := h
  obtain ⟨oa, oc, rfl⟩ := ownsRow_slice h.out
  exact ⟨⟨_, _, _, h.cell 5⟩, h.lt⟩
set_option maxHeartbeats 8000000 in
theorem ex46_trap {w : World} {base B M G k : Nat} {s : St} (h : MIn w base B M G s k) (hc : ∀ wx, MIn wx base B M G s k → Calls Tryz.prog 65 #[.pointer (some ⟨B, 0, none⟩)] wx (TrapEnd wx base B M G k s)) : Calls Tryz.prog 49 #[.pointer (some ⟨B, 0, none⟩), .int .u32 46] w (TrapEnd w base B M G k s) := by
  have H := Keep.mk h
  have HC := Keep.mk hc
  have hBl := h.lt
  clear h hc
  go_enter Tryz.func49, Tryz.ntmps49
  go_upto_region 48 with (fail)
  refine wp_region_inv12 (P := Tryz.prog) (Fr := fun v0 v1 v2 v3 v4 v5 v6 v7 v8 v9 v10 v11 => { tmps := #[.pointer (some ⟨B, 0, none⟩), .int .u32 46, undef, undef, undef, undef, undef, undef, undef, undef, undef, undef, undef, undef, .int .u32 46, undef, undef, undef, undef, undef, undef, undef, undef, undef, undef, undef, undef, undef, undef, undef, undef, undef, undef, undef, undef, undef, .bool false, .bool false, .bool false, .bool false, .bool false, .bool false, .bool false, .bool false, .bool false, .bool false, .bool false, undef, undef, undef, undef, undef, undef, undef, undef, undef, undef, undef, undef, undef, undef, undef, undef, undef, undef, undef, undef, undef, undef, undef, undef, undef, undef, undef, undef, undef, undef, undef, .bool false, .bool false, .bool false, .bool false, .bool false, undef, undef, undef, undef, undef, undef, undef, undef, undef, undef, .bool false, .bool false, undef, undef, undef, undef, undef, undef, undef, undef, undef, undef, .bool false, .bool false, undef, undef, undef, undef, undef, undef, undef, undef, undef, .bool false, .bool false, undef, undef, undef, undef, undef, undef, undef, undef, undef, undef, undef, undef, undef, undef, undef, undef, undef, undef, undef, undef, undef, undef, undef, undef, undef, undef, .bool false, .bool false, undef, undef, undef, undef, undef, undef, undef, undef, undef, undef, undef, undef, undef, undef, undef, undef, undef, undef, undef, undef, undef, undef, undef, undef, undef, undef, undef, undef, undef, .bool false, .bool false, undef, undef, undef, undef, undef, undef, undef, undef, undef, undef, undef, undef, undef, undef, undef, undef, undef, undef, undef, undef, undef, undef, undef, .bool true, .bool true, v0, v1, v2, v3, v4, v5, v6, v7, v8, v9, v10, v11, undef, undef, undef, undef, undef], defers := [] })
    undef undef undef undef undef undef undef undef undef undef undef undef (fun L v0 v1 v2 v3 v4 v5 v6 v7 v8 v9 v10 v11 wx => RG (esT B) L [v0, v1, v2, v3, v4, v5, v6, v7, v8, v9, v10, v11] ∧ ST w base B M G k s (L 6) (L 7) wx) ?_ ?_ ?_ ?_ ?_
  · kernel_rfl
  · kernel_rfl
  · exact ⟨RG.zero (by simp [esT]), ST.start H.out⟩
  · refine ⟨?_, ?_, ?_, ?_, ?_, ?_, ?_, ?_, ?_, ?_, ?_, ?_, ?_, trivial⟩
    · intro L v0 v1 v2 v3 v4 v5 v6 v7 v8 v9 v10 v11 wx hL hd hR K' hK
      rw [if_pos (by rfl)]
      obtain ⟨hR, hS⟩ := hR
      have HR := Keep.mk hR
      have HS := Keep.mk hS
      have HK := Keep.mk hK
      clear hd hL hR hS hK
      go_simp
      exact HK.out _ _ _ _ _ _ _ _ _ _ _ _ _ ⟨HR.out.put 0 (.pointer (some ⟨B, 0, none⟩)) (by simp) (by simp [esT]), HS.out.skip 0 (by decide) (by decide)⟩
    · intro L v0 v1 v2 v3 v4 v5 v6 v7 v8 v9 v10 v11 wx hL hd hR K' hK
      rw [if_pos (by rfl)]
      obtain ⟨hR, hS⟩ := hR
      have HR := Keep.mk hR
      have HS := Keep.mk hS
      have HK := Keep.mk hK
      clear hd hL hR hS hK
      go_simp
      exact HK.out _ _ _ _ _ _ _ _ _ _ _ _ _ ⟨HR.out.put 1 (.pointer (some ⟨B, 0, none⟩)) (by simp) (by simp [esT]), HS.out.skip 1 (by decide) (by decide)⟩
    · intro L v0 v1 v2 v3 v4 v5 v6 v7 v8 v9 v10 v11 wx hL hd hR K' hK
      rw [if_pos (by rfl)]
      have hd' : L 1 = true := by simpa [Region.binds] using hd
      obtain ⟨hR, hS⟩ := hR
      obtain rfl := hR.at 1 (e := (.pointer (some ⟨B, 0, none⟩))) rfl rfl hd'
      have HR := Keep.mk hR
      have HS := Keep.mk hS
      have HK := Keep.mk hK
      clear hd hL hR hS hK hd'
      go_simp
      exact HK.out _ _ _ _ _ _ _ _ _ _ _ _ _ ⟨HR.out.put 2 (.pointer (some ⟨B, 0, none⟩)) (by simp) (by simp [esT]), HS.out.skip 2 (by decide) (by decide)⟩
    · intro L v0 v1 v2 v3 v4 v5 v6 v7 v8 v9 v10 v11 wx hL hd hR K' hK
      rw [if_pos (by rfl)]
      have hd' : L 2 = true := by simpa [Region.binds] using hd
      obtain ⟨hR, hS⟩ := hR
      obtain rfl := hR.at 2 (e := (.pointer (some ⟨B, 0, none⟩))) rfl rfl hd'
      have HR := Keep.mk hR
      have HS := Keep.mk hS
      have HK := Keep.mk hK
      clear hd hL hR hS hK hd'
      go_simp
      exact HK.out _ _ _ _ _ _ _ _ _ _ _ _ _ ⟨HR.out.put 3 (.pointer (some ⟨B, 5, none⟩)) (by simp) (by simp [esT]), HS.out.skip 3 (by decide) (by decide)⟩
    · intro L v0 v1 v2 v3 v4 v5 v6 v7 v8 v9 v10 v11 wx hL hd hR K' hK
      rw [if_pos (by rfl)]
      have hd' : L 3 = true := by simpa [Region.binds] using hd
      obtain ⟨hR, hS⟩ := hR
      obtain rfl := hR.at 3 (e := (.pointer (some ⟨B, 5, none⟩))) rfl rfl hd'
      obtain ⟨⟨oa, on, oc, hc5⟩, hbl⟩ := hS.m.out5
      have HR := Keep.mk hR
      have HS := Keep.mk hS
      have HK := Keep.mk hK
      clear hd hL hR hS hK hd'
      go_simp
      exact HK.out _ _ _ _ _ _ _ _ _ _ _ _ _ ⟨HR.out.put 4 (.slice oa on oc) (by simp) (by simp [esT]), HS.out.skip 4 (by decide) (by decide)⟩
    · intro L v0 v1 v2 v3 v4 v5 v6 v7 v8 v9 v10 v11 wx hL hd hR K' hK
      rw [if_pos (by rfl)]
      obtain ⟨hR, hS⟩ := hR
      have HR := Keep.mk hR
      have HS := Keep.mk hS
      have HK := Keep.mk hK
      clear hd hL hR hS hK
      go_simp
      exact HK.out _ _ _ _ _ _ _ _ _ _ _ _ _ ⟨HR.out.put 5 (.pointer (some ⟨B, 0, none⟩)) (by simp) (by simp [esT]), HS.out.skip 5 (by decide) (by decide)⟩
    · intro L v0 v1 v2 v3 v4 v5 v6 v7 v8 v9 v10 v11 wx hL hd hR K' hK
      rw [if_pos (by rfl)]
      have hd' : L 5 = true := by simpa [Region.binds] using hd
      obtain ⟨hR, hS⟩ := hR
      obtain rfl := hR.at 5 (e := (.pointer (some ⟨B, 0, none⟩))) rfl rfl hd'
      have HR := Keep.mk hR
      have HS := Keep.mk hS
      have HK := Keep.mk hK
      clear hd hL hR hS hK hd'
      go_simp
      refine (HC.out wx HS.out.m).mono ?_
      rintro _ wy ⟨rfl, hm, hw⟩
      exact ⟨rfl, traps_is, hm, HS.out.mw.trans hw⟩
    · intro L v0 v1 v2 v3 v4 v5 v6 v7 v8 v9 v10 v11 wx hL hd hR K' hK
      rw [if_pos (by rfl)]
      exfalso
      have h6 : L 6 = true := by simp [Region.binds] at hd; simp [hd]
      rw [hR.2.no] at h6
      cases h6
    · intro L v0 v1 v2 v3 v4 v5 v6 v7 v8 v9 v10 v11 wx hL hd hR K' hK
      rw [if_pos (by rfl)]
      exfalso
      have h6 : L 7 = true := by simp [Region.binds] at hd; simp [hd]
      rw [hR.2.no7] at h6
      cases h6
    · intro L v0 v1 v2 v3 v4 v5 v6 v7 v8 v9 v10 v11 wx hL hd hR K' hK
      rw [if_pos (by rfl)]
      exfalso
      have h6 : L 6 = true := by simp [Region.binds] at hd; simp [hd]
      rw [hR.2.no] at h6
      cases h6
    · intro L v0 v1 v2 v3 v4 v5 v6 v7 v8 v9 v10 v11 wx hL hd hR K' hK
      rw [if_pos (by rfl)]
      exfalso
      have h6 : L 6 = true := by simp [Region.binds] at hd; simp [hd]
      rw [hR.2.no] at h6
      cases h6
    · intro L v0 v1 v2 v3 v4 v5 v6 v7 v8 v9 v10 v11 wx hL hd hR K' hK
      rw [if_pos (by rfl)]
      exfalso
      have h6 : L 6 = true := by simp [Region.binds] at hd; simp [hd]
      rw [hR.2.no] at h6
      cases h6
    · intro L v0 v1 v2 v3 v4 v5 v6 v7 v8 v9 v10 v11 wx hL hd hR K' hK
      rw [if_pos (by rfl)]
      exfalso
      have h6 : L 6 = true := by simp [Region.binds] at hd; simp [hd]
      rw [hR.2.no] at h6
      cases h6
  · intro v0 v1 v2 v3 v4 v5 v6 v7 v8 v9 v10 v11 wx hR
    have := hR.2.no
    cases this
end Go.Proofs.YtojgopbaiflfgaaGreatDoor
