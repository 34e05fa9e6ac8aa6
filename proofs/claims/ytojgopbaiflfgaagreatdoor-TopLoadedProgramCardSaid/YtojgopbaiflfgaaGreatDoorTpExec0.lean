/- machine.execute, sign by sign (printed by wip/tools/gen_exec.py). No condition. -/
import Derived.Test.YtojgopbaiflfgaaGreatDoorTpExecBase
namespace Go.Proofs.YtojgopbaiflfgaaGreatDoor
set_option maxRecDepth 100000
open Go.RowKit Go.Shelf Go.Proofs.YtojgopbaiflfgaaGreatDoor.B2

set_option maxHeartbeats 4000000 in
theorem ex48_push {w : World} {base B M G k : Nat} {s : St} (h : MIn w base B M G s k) (hd : s.digit = false) (hl : s.data.length < 256) :
    Calls Tryz.prog 49 #[.pointer (some ⟨B, 0, none⟩), .int .u32 48] w fun e w' => (∃ u, e = .returned u) ∧ MIn w' base B M G { s with data := (48#32 - 48#32) :: s.data } k ∧ Mw base w w' := by
  have HP := Keep.mk (push_any h (48#32 - 48#32) hl)
  rw [show W32 (48#32 - 48#32) = 0 from rfl] at HP
  obtain ⟨dv, cv, iv, ov, h⟩ := h
  obtain ⟨da, dc, rfl⟩ := ownsRow_slice h.data
  have c2 : w.cell? ⟨B, 2, none⟩ = some (.slice da s.data.length dc) := h.cell 2
  have c6 : w.cell? ⟨B, 6, none⟩ = some (.bool false) := (h.cell 6).trans (by rw [← hd]; rfl)
  have hBl := h.lt
  clear h hd
  go_enter Tryz.func49, Tryz.ntmps49
  go_wp2_with fail
  refine HP.out.mono ?_
  rintro _ w2 ⟨⟨u, rfl⟩, h2⟩
  have H2 := Keep.mk h2
  clear h2
  go_wp2_with fail
  go_end0
  exact ⟨⟨_, rfl⟩, H2.out⟩
set_option maxHeartbeats 4000000 in
theorem ex48_full {w : World} {base B M G k : Nat} {s : St} (h : MIn w base B M G s k) (hd : s.digit = false) (hl : 256 ≤ s.data.length) :
    Calls Tryz.prog 49 #[.pointer (some ⟨B, 0, none⟩), .int .u32 48] w fun e w' => Traps e ∧ w' = w := by
  have HP := Keep.mk (push_trap h (48#32 - 48#32) hl)
  rw [show W32 (48#32 - 48#32) = 0 from rfl] at HP
  obtain ⟨dv, cv, iv, ov, h⟩ := h
  obtain ⟨da, dc, rfl⟩ := ownsRow_slice h.data
  have hs := h.d256
  have c2 : w.cell? ⟨B, 2, none⟩ = some (.slice da s.data.length dc) := h.cell 2
  have c6 : w.cell? ⟨B, 6, none⟩ = some (.bool false) := (h.cell 6).trans (by rw [← hd]; rfl)
  have hBl := h.lt
  clear h hd
  go_enter Tryz.func49, Tryz.ntmps49
  go_wp2_with fail
  refine HP.out.mono ?_
  rintro _ w2 ⟨rfl, rfl⟩
  exact ⟨rfl, traps_is, rfl⟩
set_option maxHeartbeats 4000000 in
theorem ex48_top {w : World} {base B M G k : Nat} {s : St} (h : MIn w base B M G s k) (hd : s.digit = true) (t : W) (d : List W) (hl : s.data = t :: d) :
    Calls Tryz.prog 49 #[.pointer (some ⟨B, 0, none⟩), .int .u32 48] w fun e w' => (∃ u, e = .returned u) ∧ MIn w' base B M G { s with data := (t * 10#32 + 48#32 - 48#32) :: d } k ∧ Mw base w w' := by
  obtain ⟨dv, cv, iv, ov, h⟩ := h
  obtain ⟨g, cap, rfl, hg1, hg2, hg3, hg4, hg5, hg6, hg7, hg8⟩ := h.top hl
  have HF := Keep.mk (h.topped hl (t * 10#32 + 48#32 - 48#32) rfl)
  have hdl : d.length < 256 := by have := h.d256; rw [hl] at this; simp at this; omega
  have c2 : w.cell? ⟨B, 2, none⟩ = some (.slice (some ⟨g, 0, none⟩) (d.length + 1) cap) := h.cell 2
  have c6 : w.cell? ⟨B, 6, none⟩ = some (.bool true) := (h.cell 6).trans (by rw [← hd]; rfl)
  have hBl := h.lt
  have e1 : IntKind.u32.wrap (W32 t * 10) = W32 (t * 10#32) := mul_lit t 10
  have e2 : IntKind.u32.wrap (W32 (t * 10#32) + 48) = W32 (t * 10#32 + 48#32) := add_lit _ 48
  have e3 : IntKind.u32.wrap (W32 (t * 10#32 + 48#32) - 48) = W32 (t * 10#32 + 48#32 - 48#32) := sub_lit _ 48
  unfold maxLen at hg2
  clear h hd hl
  go_enter Tryz.func49, Tryz.ntmps49
  go_upto_region 18 with (fail)
  go_region
  go_end0
  exact ⟨⟨_, rfl⟩, ⟨_, _, _, _, HF.out.1.drew⟩, HF.out.2.trans (Mw.drew _ _)⟩
set_option maxHeartbeats 4000000 in
theorem ex49_push {w : World} {base B M G k : Nat} {s : St} (h : MIn w base B M G s k) (hd : s.digit = false) (hl : s.data.length < 256) :
    Calls Tryz.prog 49 #[.pointer (some ⟨B, 0, none⟩), .int .u32 49] w fun e w' => (∃ u, e = .returned u) ∧ MIn w' base B M G { s with data := (49#32 - 48#32) :: s.data } k ∧ Mw base w w' := by
  have HP := Keep.mk (push_any h (49#32 - 48#32) hl)
  rw [show W32 (49#32 - 48#32) = 1 from rfl] at HP
  obtain ⟨dv, cv, iv, ov, h⟩ := h
  obtain ⟨da, dc, rfl⟩ := ownsRow_slice h.data
  have c2 : w.cell? ⟨B, 2, none⟩ = some (.slice da s.data.length dc) := h.cell 2
  have c6 : w.cell? ⟨B, 6, none⟩ = some (.bool false) := (h.cell 6).trans (by rw [← hd]; rfl)
  have hBl := h.lt
  clear h hd
  go_enter Tryz.func49, Tryz.ntmps49
  go_wp2_with fail
  refine HP.out.mono ?_
  rintro _ w2 ⟨⟨u, rfl⟩, h2⟩
  have H2 := Keep.mk h2
  clear h2
  go_wp2_with fail
  go_end0
  exact ⟨⟨_, rfl⟩, H2.out⟩
set_option maxHeartbeats 4000000 in
theorem ex49_full {w : World} {base B M G k : Nat} {s : St} (h : MIn w base B M G s k) (hd : s.digit = false) (hl : 256 ≤ s.data.length) :
    Calls Tryz.prog 49 #[.pointer (some ⟨B, 0, none⟩), .int .u32 49] w fun e w' => Traps e ∧ w' = w := by
  have HP := Keep.mk (push_trap h (49#32 - 48#32) hl)
  rw [show W32 (49#32 - 48#32) = 1 from rfl] at HP
  obtain ⟨dv, cv, iv, ov, h⟩ := h
  obtain ⟨da, dc, rfl⟩ := ownsRow_slice h.data
  have hs := h.d256
  have c2 : w.cell? ⟨B, 2, none⟩ = some (.slice da s.data.length dc) := h.cell 2
  have c6 : w.cell? ⟨B, 6, none⟩ = some (.bool false) := (h.cell 6).trans (by rw [← hd]; rfl)
  have hBl := h.lt
  clear h hd
  go_enter Tryz.func49, Tryz.ntmps49
  go_wp2_with fail
  refine HP.out.mono ?_
  rintro _ w2 ⟨rfl, rfl⟩
  exact ⟨rfl, traps_is, rfl⟩
set_option maxHeartbeats 4000000 in
theorem ex49_top {w : World} {base B M G k : Nat} {s : St} (h : MIn w base B M G s k) (hd : s.digit = true) (t : W) (d : List W) (hl : s.data = t :: d) :
    Calls Tryz.prog 49 #[.pointer (some ⟨B, 0, none⟩), .int .u32 49] w fun e w' => (∃ u, e = .returned u) ∧ MIn w' base B M G { s with data := (t * 10#32 + 49#32 - 48#32) :: d } k ∧ Mw base w w' := by
  obtain ⟨dv, cv, iv, ov, h⟩ := h
  obtain ⟨g, cap, rfl, hg1, hg2, hg3, hg4, hg5, hg6, hg7, hg8⟩ := h.top hl
  have HF := Keep.mk (h.topped hl (t * 10#32 + 49#32 - 48#32) rfl)
  have hdl : d.length < 256 := by have := h.d256; rw [hl] at this; simp at this; omega
  have c2 : w.cell? ⟨B, 2, none⟩ = some (.slice (some ⟨g, 0, none⟩) (d.length + 1) cap) := h.cell 2
  have c6 : w.cell? ⟨B, 6, none⟩ = some (.bool true) := (h.cell 6).trans (by rw [← hd]; rfl)
  have hBl := h.lt
  have e1 : IntKind.u32.wrap (W32 t * 10) = W32 (t * 10#32) := mul_lit t 10
  have e2 : IntKind.u32.wrap (W32 (t * 10#32) + 49) = W32 (t * 10#32 + 49#32) := add_lit _ 49
  have e3 : IntKind.u32.wrap (W32 (t * 10#32 + 49#32) - 48) = W32 (t * 10#32 + 49#32 - 48#32) := sub_lit _ 48
  unfold maxLen at hg2
  clear h hd hl
  go_enter Tryz.func49, Tryz.ntmps49
  go_upto_region 18 with (fail)
  go_region
  go_end0
  exact ⟨⟨_, rfl⟩, ⟨_, _, _, _, HF.out.1.drew⟩, HF.out.2.trans (Mw.drew _ _)⟩
set_option maxHeartbeats 4000000 in
theorem ex50_push {w : World} {base B M G k : Nat} {s : St} (h : MIn w base B M G s k) (hd : s.digit = false) (hl : s.data.length < 256) :
    Calls Tryz.prog 49 #[.pointer (some ⟨B, 0, none⟩), .int .u32 50] w fun e w' => (∃ u, e = .returned u) ∧ MIn w' base B M G { s with data := (50#32 - 48#32) :: s.data } k ∧ Mw base w w' := by
  have HP := Keep.mk (push_any h (50#32 - 48#32) hl)
  rw [show W32 (50#32 - 48#32) = 2 from rfl] at HP
  obtain ⟨dv, cv, iv, ov, h⟩ := h
  obtain ⟨da, dc, rfl⟩ := ownsRow_slice h.data
  have c2 : w.cell? ⟨B, 2, none⟩ = some (.slice da s.data.length dc) := h.cell 2
  have c6 : w.cell? ⟨B, 6, none⟩ = some (.bool false) := (h.cell 6).trans (by rw [← hd]; rfl)
  have hBl := h.lt
  clear h hd
  go_enter Tryz.func49, Tryz.ntmps49
  go_wp2_with fail
  refine HP.out.mono ?_
  rintro _ w2 ⟨⟨u, rfl⟩, h2⟩
  have H2 := Keep.mk h2
  clear h2
  go_wp2_with fail
  go_end0
  exact ⟨⟨_, rfl⟩, H2.out⟩
set_option maxHeartbeats 4000000 in
theorem ex50_full {w : World} {base B M G k : Nat} {s : St} (h : MIn w base B M G s k) (hd : s.digit = false) (hl : 256 ≤ s.data.length) :
    Calls Tryz.prog 49 #[.pointer (some ⟨B, 0, none⟩), .int .u32 50] w fun e w' => Traps e ∧ w' = w := by
  have HP := Keep.mk (push_trap h (50#32 - 48#32) hl)
  rw [show W32 (50#32 - 48#32) = 2 from rfl] at HP
  obtain ⟨dv, cv, iv, ov, h⟩ := h
  obtain ⟨da, dc, rfl⟩ := ownsRow_slice h.data
  have hs := h.d256
  have c2 : w.cell? ⟨B, 2, none⟩ = some (.slice da s.data.length dc) := h.cell 2
  have c6 : w.cell? ⟨B, 6, none⟩ = some (.bool false) := (h.cell 6).trans (by rw [← hd]; rfl)
  have hBl := h.lt
  clear h hd
  go_enter Tryz.func49, Tryz.ntmps49
  go_wp2_with fail
  refine HP.out.mono ?_
  rintro _ w2 ⟨rfl, rfl⟩
  exact ⟨rfl, traps_is, rfl⟩
set_option maxHeartbeats 4000000 in
theorem ex50_top {w : World} {base B M G k : Nat} {s : St} (h : MIn w base B M G s k) (hd : s.digit = true) (t : W) (d : List W) (hl : s.data = t :: d) :
    Calls Tryz.prog 49 #[.pointer (some ⟨B, 0, none⟩), .int .u32 50] w fun e w' => (∃ u, e = .returned u) ∧ MIn w' base B M G { s with data := (t * 10#32 + 50#32 - 48#32) :: d } k ∧ Mw base w w' := by
  obtain ⟨dv, cv, iv, ov, h⟩ := h
  obtain ⟨g, cap, rfl, hg1, hg2, hg3, hg4, hg5, hg6, hg7, hg8⟩ := h.top hl
  have HF := Keep.mk (h.topped hl (t * 10#32 + 50#32 - 48#32) rfl)
  have hdl : d.length < 256 := by have := h.d256; rw [hl] at this; simp at this; omega
  have c2 : w.cell? ⟨B, 2, none⟩ = some (.slice (some ⟨g, 0, none⟩) (d.length + 1) cap) := h.cell 2
  have c6 : w.cell? ⟨B, 6, none⟩ = some (.bool true) := (h.cell 6).trans (by rw [← hd]; rfl)
  have hBl := h.lt
  have e1 : IntKind.u32.wrap (W32 t * 10) = W32 (t * 10#32) := mul_lit t 10
  have e2 : IntKind.u32.wrap (W32 (t * 10#32) + 50) = W32 (t * 10#32 + 50#32) := add_lit _ 50
  have e3 : IntKind.u32.wrap (W32 (t * 10#32 + 50#32) - 48) = W32 (t * 10#32 + 50#32 - 48#32) := sub_lit _ 48
  unfold maxLen at hg2
  clear h hd hl
  go_enter Tryz.func49, Tryz.ntmps49
  go_upto_region 18 with (fail)
  go_region
  go_end0
  exact ⟨⟨_, rfl⟩, ⟨_, _, _, _, HF.out.1.drew⟩, HF.out.2.trans (Mw.drew _ _)⟩
set_option maxHeartbeats 4000000 in
theorem ex51_push {w : World} {base B M G k : Nat} {s : St} (h : MIn w base B M G s k) (hd : s.digit = false) (hl : s.data.length < 256) :
    Calls Tryz.prog 49 #[.pointer (some ⟨B, 0, none⟩), .int .u32 51] w fun e w' => (∃ u, e = .returned u) ∧ MIn w' base B M G { s with data := (51#32 - 48#32) :: s.data } k ∧ Mw base w w' := by
  have HP := Keep.mk (push_any h (51#32 - 48#32) hl)
  rw [show W32 (51#32 - 48#32) = 3 from rfl] at HP
  obtain ⟨dv, cv, iv, ov, h⟩ := h
  obtain ⟨da, dc, rfl⟩ := ownsRow_slice h.data
  have c2 : w.cell? ⟨B, 2, none⟩ = some (.slice da s.data.length dc) := h.cell 2
  have c6 : w.cell? ⟨B, 6, none⟩ = some (.bool false) := (h.cell 6).trans (by rw [← hd]; rfl)
  have hBl := h.lt
  clear h hd
  go_enter Tryz.func49, Tryz.ntmps49
  go_wp2_with fail
  refine HP.out.mono ?_
  rintro _ w2 ⟨⟨u, rfl⟩, h2⟩
  have H2 := Keep.mk h2
  clear h2
  go_wp2_with fail
  go_end0
  exact ⟨⟨_, rfl⟩, H2.out⟩
set_option maxHeartbeats 4000000 in
theorem ex51_full {w : World} {base B M G k : Nat} {s : St} (h : MIn w base B M G s k) (hd : s.digit = false) (hl : 256 ≤ s.data.length) :
    Calls Tryz.prog 49 #[.pointer (some ⟨B, 0, none⟩), .int .u32 51] w fun e w' => Traps e ∧ w' = w := by
  have HP := Keep.mk (push_trap h (51#32 - 48#32) hl)
  rw [show W32 (51#32 - 48#32) = 3 from rfl] at HP
  obtain ⟨dv, cv, iv, ov, h⟩ := h
  obtain ⟨da, dc, rfl⟩ := ownsRow_slice h.data
  have hs := h.d256
  have c2 : w.cell? ⟨B, 2, none⟩ = some (.slice da s.data.length dc) := h.cell 2
  have c6 : w.cell? ⟨B, 6, none⟩ = some (.bool false) := (h.cell 6).trans (by rw [← hd]; rfl)
  have hBl := h.lt
  clear h hd
  go_enter Tryz.func49, Tryz.ntmps49
  go_wp2_with fail
  refine HP.out.mono ?_
  rintro _ w2 ⟨rfl, rfl⟩
  exact ⟨rfl, traps_is, rfl⟩
set_option maxHeartbeats 4000000 in
theorem ex51_top {w : World} {base B M G k : Nat} {s : St} (h : MIn w base B M G s k) (hd : s.digit = true) (t : W) (d : List W) (hl : s.data = t :: d) :
    Calls Tryz.prog 49 #[.pointer (some ⟨B, 0, none⟩), .int .u32 51] w fun e w' => (∃ u, e = .returned u) ∧ MIn w' base B M G { s with data := (t * 10#32 + 51#32 - 48#32) :: d } k ∧ Mw base w w' := by
  obtain ⟨dv, cv, iv, ov, h⟩ := h
  obtain ⟨g, cap, rfl, hg1, hg2, hg3, hg4, hg5, hg6, hg7, hg8⟩ := h.top hl
  have HF := Keep.mk (h.topped hl (t * 10#32 + 51#32 - 48#32) rfl)
  have hdl : d.length < 256 := by have := h.d256; rw [hl] at this; simp at this; omega
  have c2 : w.cell? ⟨B, 2, none⟩ = some (.slice (some ⟨g, 0, none⟩) (d.length + 1) cap) := h.cell 2
  have c6 : w.cell? ⟨B, 6, none⟩ = some (.bool true) := (h.cell 6).trans (by rw [← hd]; rfl)
  have hBl := h.lt
  have e1 : IntKind.u32.wrap (W32 t * 10) = W32 (t * 10#32) := mul_lit t 10
  have e2 : IntKind.u32.wrap (W32 (t * 10#32) + 51) = W32 (t * 10#32 + 51#32) := add_lit _ 51
  have e3 : IntKind.u32.wrap (W32 (t * 10#32 + 51#32) - 48) = W32 (t * 10#32 + 51#32 - 48#32) := sub_lit _ 48
  unfold maxLen at hg2
  clear h hd hl
  go_enter Tryz.func49, Tryz.ntmps49
  go_upto_region 18 with (fail)
  go_region
  go_end0
  exact ⟨⟨_, rfl⟩, ⟨_, _, _, _, HF.out.1.drew⟩, HF.out.2.trans (Mw.drew _ _)⟩
set_option maxHeartbeats 4000000 in
theorem ex52_push {w : World} {base B M G k : Nat} {s : St} (h : MIn w base B M G s k) (hd : s.digit = false) (hl : s.data.length < 256) :
    Calls Tryz.prog 49 #[.pointer (some ⟨B, 0, none⟩), .int .u32 52] w fun e w' => (∃ u, e = .returned u) ∧ MIn w' base B M G { s with data := (52#32 - 48#32) :: s.data } k ∧ Mw base w w' := by
  have HP := Keep.mk (push_any h (52#32 - 48#32) hl)
  rw [show W32 (52#32 - 48#32) = 4 from rfl] at HP
  obtain ⟨dv, cv, iv, ov, h⟩ := h
  obtain ⟨da, dc, rfl⟩ := ownsRow_slice h.data
  have c2 : w.cell? ⟨B, 2, none⟩ = some (.slice da s.data.length dc) := h.cell 2
  have c6 : w.cell? ⟨B, 6, none⟩ = some (.bool false) := (h.cell 6).trans (by rw [← hd]; rfl)
  have hBl := h.lt
  clear h hd
  go_enter Tryz.func49, Tryz.ntmps49
  go_wp2_with fail
  refine HP.out.mono ?_
  rintro _ w2 ⟨⟨u, rfl⟩, h2⟩
  have H2 := Keep.mk h2
  clear h2
  go_wp2_with fail
  go_end0
  exact ⟨⟨_, rfl⟩, H2.out⟩
set_option maxHeartbeats 4000000 in
theorem ex52_full {w : World} {base B M G k : Nat} {s : St} (h : MIn w base B M G s k) (hd : s.digit = false) (hl : 256 ≤ s.data.length) :
    Calls Tryz.prog 49 #[.pointer (some ⟨B, 0, none⟩), .int .u32 52] w fun e w' => Traps e ∧ w' = w := by
  have HP := Keep.mk (push_trap h (52#32 - 48#32) hl)
  rw [show W32 (52#32 - 48#32) = 4 from rfl] at HP
  obtain ⟨dv, cv, iv, ov, h⟩ := h
  obtain ⟨da, dc, rfl⟩ := ownsRow_slice h.data
  have hs := h.d256
  have c2 : w.cell? ⟨B, 2, none⟩ = some (.slice da s.data.length dc) := h.cell 2
  have c6 : w.cell? ⟨B, 6, none⟩ = some (.bool false) := (h.cell 6).trans (by rw [← hd]; rfl)
  have hBl := h.lt
  clear h hd
  go_enter Tryz.func49, Tryz.ntmps49
  go_wp2_with fail
  refine HP.out.mono ?_
  rintro _ w2 ⟨rfl, rfl⟩
  exact ⟨rfl, traps_is, rfl⟩
set_option maxHeartbeats 4000000 in
theorem ex52_top {w : World} {base B M G k : Nat} {s : St} (h : MIn w base B M G s k) (hd : s.digit = true) (t : W) (d : List W) (hl : s.data = t :: d) :
    Calls Tryz.prog 49 #[.pointer (some ⟨B, 0, none⟩), .int .u32 52] w fun e w' => (∃ u, e = .returned u) ∧ MIn w' base B M G { s with data := (t * 10#32 + 52#32 - 48#32) :: d } k ∧ Mw base w w' := by
  obtain ⟨dv, cv, iv, ov, h⟩ := h
  obtain ⟨g, cap, rfl, hg1, hg2, hg3, hg4, hg5, hg6, hg7, hg8⟩ := h.top hl
  have HF := Keep.mk (h.topped hl (t * 10#32 + 52#32 - 48#32) rfl)
  have hdl : d.length < 256 := by have := h.d256; rw [hl] at this; simp at this; omega
  have c2 : w.cell? ⟨B, 2, none⟩ = some (.slice (some ⟨g, 0, none⟩) (d.length + 1) cap) := h.cell 2
  have c6 : w.cell? ⟨B, 6, none⟩ = some (.bool true) := (h.cell 6).trans (by rw [← hd]; rfl)
  have hBl := h.lt
  have e1 : IntKind.u32.wrap (W32 t * 10) = W32 (t * 10#32) := mul_lit t 10
  have e2 : IntKind.u32.wrap (W32 (t * 10#32) + 52) = W32 (t * 10#32 + 52#32) := add_lit _ 52
  have e3 : IntKind.u32.wrap (W32 (t * 10#32 + 52#32) - 48) = W32 (t * 10#32 + 52#32 - 48#32) := sub_lit _ 48
  unfold maxLen at hg2
  clear h hd hl
  go_enter Tryz.func49, Tryz.ntmps49
  go_upto_region 18 with (fail)
  go_region
  go_end0
  exact ⟨⟨_, rfl⟩, ⟨_, _, _, _, HF.out.1.drew⟩, HF.out.2.trans (Mw.drew _ _)⟩
end Go.Proofs.YtojgopbaiflfgaaGreatDoor
