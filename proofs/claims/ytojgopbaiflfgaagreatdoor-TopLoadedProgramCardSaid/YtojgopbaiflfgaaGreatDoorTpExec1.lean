/- machine.execute, sign by sign (printed by wip/tools/gen_exec.py). No condition. -/
import Derived.Test.YtojgopbaiflfgaaGreatDoorTpExecBase
namespace Go.Proofs.YtojgopbaiflfgaaGreatDoor
set_option maxRecDepth 100000
open Go.RowKit Go.Shelf Go.Proofs.YtojgopbaiflfgaaGreatDoor.B2

set_option maxHeartbeats 4000000 in
theorem ex53_push {w : World} {base B M G k : Nat} {s : St} (h : MIn w base B M G s k) (hd : s.digit = false) (hl : s.data.length < 256) :
    Calls Tryz.prog 49 #[.pointer (some ⟨B, 0, none⟩), .int .u32 53] w fun e w' => (∃ u, e = .returned u) ∧ MIn w' base B M G { s with data := (53#32 - 48#32) :: s.data } k ∧ Mw base w w' := by
  have HP := Keep.mk (push_any h (53#32 - 48#32) hl)
  rw [show W32 (53#32 - 48#32) = 5 from rfl] at HP
  obtain ⟨dv, cv, iv, ov, h⟩ := h
  obtain ⟨da, dc, rfl⟩ := ownsRow_slice h.data
  have c2 : w.cell? ⟨B, 2, none⟩ = some (.slice da s.data.length dc) := h.cell 2
  have c6 : w.cell? ⟨B, 6, none⟩ = some (.bool false) := (h.cell 6).trans (by rw [← hd]; rfl)
  have hBl := h.lt
  clear h hd
  go_enter Tryz.func49, Tryz.ntmps49
  go_wp2_with fail
  refine HP.out.mono ?_
  rintro _ w2 ⟨⟨u, rfl⟩, h2⟩
  have H2 := Keep.mk h2
  clear h2
  go_wp2_with fail
  go_end0
  exact ⟨⟨_, rfl⟩, H2.out⟩
set_option maxHeartbeats 4000000 in
theorem ex53_full {w : World} {base B M G k : Nat} {s : St} (h : MIn w base B M G s k) (hd : s.digit = false) (hl : 256 ≤ s.data.length) :
    Calls Tryz.prog 49 #[.pointer (some ⟨B, 0, none⟩), .int .u32 53] w fun e w' => Traps e ∧ w' = w := by
  have HP := Keep.mk (push_trap h (53#32 - 48#32) hl)
  rw [show W32 (53#32 - 48#32) = 5 from rfl] at HP
  obtain ⟨dv, cv, iv, ov, h⟩ := h
  obtain ⟨da, dc, rfl⟩ := ownsRow_slice h.data
  have hs := h.d256
  have c2 : w.cell? ⟨B, 2, none⟩ = some (.slice da s.data.length dc) := h.cell 2
  have c6 : w.cell? ⟨B, 6, none⟩ = some (.bool false) := (h.cell 6).trans (by rw [← hd]; rfl)
  have hBl := h.lt
  clear h hd
  go_enter Tryz.func49, Tryz.ntmps49
  go_wp2_with fail
  refine HP.out.mono ?_
  rintro _ w2 ⟨rfl, rfl⟩
  exact ⟨rfl, traps_is, rfl⟩
set_option maxHeartbeats 4000000 in
theorem ex53_top {w : World} {base B M G k : Nat} {s : St} (h : MIn w base B M G s k) (hd : s.digit = true) (t : W) (d : List W) (hl : s.data = t :: d) :
    Calls Tryz.prog 49 #[.pointer (some ⟨B, 0, none⟩), .int .u32 53] w fun e w' => (∃ u, e = .returned u) ∧ MIn w' base B M G { s with data := (t * 10#32 + 53#32 - 48#32) :: d } k ∧ Mw base w w' := by
  obtain ⟨dv, cv, iv, ov, h⟩ := h
  obtain ⟨g, cap, rfl, hg1, hg2, hg3, hg4, hg5, hg6, hg7, hg8⟩ := h.top hl
  have HF := Keep.mk (h.topped hl (t * 10#32 + 53#32 - 48#32) rfl)
  have hdl : d.length < 256 := by have := h.d256; rw [hl] at this; simp at this; omega
  have c2 : w.cell? ⟨B, 2, none⟩ = some (.slice (some ⟨g, 0, none⟩) (d.length + 1) cap) := h.cell 2
  have c6 : w.cell? ⟨B, 6, none⟩ = some (.bool true) := (h.cell 6).trans (by rw [← hd]; rfl)
  have hBl := h.lt
  have e1 : IntKind.u32.wrap (W32 t * 10) = W32 (t * 10#32) := mul_lit t 10
  have e2 : IntKind.u32.wrap (W32 (t * 10#32) + 53) = W32 (t * 10#32 + 53#32) := add_lit _ 53
  have e3 : IntKind.u32.wrap (W32 (t * 10#32 + 53#32) - 48) = W32 (t * 10#32 + 53#32 - 48#32) := sub_lit _ 48
  unfold maxLen at hg2
  clear h hd hl
  go_enter Tryz.func49, Tryz.ntmps49
  go_upto_region 18 with (fail)
  go_region
  go_end0
  exact ⟨⟨_, rfl⟩, ⟨_, _, _, _, HF.out.1.drew⟩, HF.out.2.trans (Mw.drew _ _)⟩
set_option maxHeartbeats 4000000 in
theorem ex54_push {w : World} {base B M G k : Nat} {s : St} (h : MIn w base B M G s k) (hd : s.digit = false) (hl : s.data.length < 256) :
    Calls Tryz.prog 49 #[.pointer (some ⟨B, 0, none⟩), .int .u32 54] w fun e w' => (∃ u, e = .returned u) ∧ MIn w' base B M G { s with data := (54#32 - 48#32) :: s.data } k ∧ Mw base w w' := by
  have HP := Keep.mk (push_any h (54#32 - 48#32) hl)
  rw [show W32 (54#32 - 48#32) = 6 from rfl] at HP
  obtain ⟨dv, cv, iv, ov, h⟩ := h
  obtain ⟨da, dc, rfl⟩ := ownsRow_slice h.data
  have c2 : w.cell? ⟨B, 2, none⟩ = some (.slice da s.data.length dc) := h.cell 2
  have c6 : w.cell? ⟨B, 6, none⟩ = some (.bool false) := (h.cell 6).trans (by rw [← hd]; rfl)
  have hBl := h.lt
  clear h hd
  go_enter Tryz.func49, Tryz.ntmps49
  go_wp2_with fail
  refine HP.out.mono ?_
  rintro _ w2 ⟨⟨u, rfl⟩, h2⟩
  have H2 := Keep.mk h2
  clear h2
  go_wp2_with fail
  go_end0
  exact ⟨⟨_, rfl⟩, H2.out⟩
set_option maxHeartbeats 4000000 in
theorem ex54_full {w : World} {base B M G k : Nat} {s : St} (h : MIn w base B M G s k) (hd : s.digit = false) (hl : 256 ≤ s.data.length) :
    Calls Tryz.prog 49 #[.pointer (some ⟨B, 0, none⟩), .int .u32 54] w fun e w' => Traps e ∧ w' = w := by
  have HP := Keep.mk (push_trap h (54#32 - 48#32) hl)
  rw [show W32 (54#32 - 48#32) = 6 from rfl] at HP
  obtain ⟨dv, cv, iv, ov, h⟩ := h
  obtain ⟨da, dc, rfl⟩ := ownsRow_slice h.data
  have hs := h.d256
  have c2 : w.cell? ⟨B, 2, none⟩ = some (.slice da s.data.length dc) := h.cell 2
  have c6 : w.cell? ⟨B, 6, none⟩ = some (.bool false) := (h.cell 6).trans (by rw [← hd]; rfl)
  have hBl := h.lt
  clear h hd
  go_enter Tryz.func49, Tryz.ntmps49
  go_wp2_with fail
  refine HP.out.mono ?_
  rintro _ w2 ⟨rfl, rfl⟩
  exact ⟨rfl, traps_is, rfl⟩
set_option maxHeartbeats 4000000 in
theorem ex54_top {w : World} {base B M G k : Nat} {s : St} (h : MIn w base B M G s k) (hd : s.digit = true) (t : W) (d : List W) (hl : s.data = t :: d) :
    Calls Tryz.prog 49 #[.pointer (some ⟨B, 0, none⟩), .int .u32 54] w fun e w' => (∃ u, e = .returned u) ∧ MIn w' base B M G { s with data := (t * 10#32 + 54#32 - 48#32) :: d } k ∧ Mw base w w' := by
  obtain ⟨dv, cv, iv, ov, h⟩ := h
  obtain ⟨g, cap, rfl, hg1, hg2, hg3, hg4, hg5, hg6, hg7, hg8⟩ := h.top hl
  have HF := Keep.mk (h.topped hl (t * 10#32 + 54#32 - 48#32) rfl)
  have hdl : d.length < 256 := by have := h.d256; rw [hl] at this; simp at this; omega
  have c2 : w.cell? ⟨B, 2, none⟩ = some (.slice (some ⟨g, 0, none⟩) (d.length + 1) cap) := h.cell 2
  have c6 : w.cell? ⟨B, 6, none⟩ = some (.bool true) := (h.cell 6).trans (by rw [← hd]; rfl)
  have hBl := h.lt
  have e1 : IntKind.u32.wrap (W32 t * 10) = W32 (t * 10#32) := mul_lit t 10
  have e2 : IntKind.u32.wrap (W32 (t * 10#32) + 54) = W32 (t * 10#32 + 54#32) := add_lit _ 54
  have e3 : IntKind.u32.wrap (W32 (t * 10#32 + 54#32) - 48) = W32 (t * 10#32 + 54#32 - 48#32) := sub_lit _ 48
  unfold maxLen at hg2
  clear h hd hl
  go_enter Tryz.func49, Tryz.ntmps49
  go_upto_region 18 with (fail)
  go_region
  go_end0
  exact ⟨⟨_, rfl⟩, ⟨_, _, _, _, HF.out.1.drew⟩, HF.out.2.trans (Mw.drew _ _)⟩
set_option maxHeartbeats 4000000 in
theorem ex55_push {w : World} {base B M G k : Nat} {s : St} (h : MIn w base B M G s k) (hd : s.digit = false) (hl : s.data.length < 256) :
    Calls Tryz.prog 49 #[.pointer (some ⟨B, 0, none⟩), .int .u32 55] w fun e w' => (∃ u, e = .returned u) ∧ MIn w' base B M G { s with data := (55#32 - 48#32) :: s.data } k ∧ Mw base w w' := by
  have HP := Keep.mk (push_any h (55#32 - 48#32) hl)
  rw [show W32 (55#32 - 48#32) = 7 from rfl] at HP
  obtain ⟨dv, cv, iv, ov, h⟩ := h
  obtain ⟨da, dc, rfl⟩ := ownsRow_slice h.data
  have c2 : w.cell? ⟨B, 2, none⟩ = some (.slice da s.data.length dc) := h.cell 2
  have c6 : w.cell? ⟨B, 6, none⟩ = some (.bool false) := (h.cell 6).trans (by rw [← hd]; rfl)
  have hBl := h.lt
  clear h hd
  go_enter Tryz.func49, Tryz.ntmps49
  go_wp2_with fail
  refine HP.out.mono ?_
  rintro _ w2 ⟨⟨u, rfl⟩, h2⟩
  have H2 := Keep.mk h2
  clear h2
  go_wp2_with fail
  go_end0
  exact ⟨⟨_, rfl⟩, H2.out⟩
set_option maxHeartbeats 4000000 in
theorem ex55_full {w : World} {base B M G k : Nat} {s : St} (h : MIn w base B M G s k) (hd : s.digit = false) (hl : 256 ≤ s.data.length) :
    Calls Tryz.prog 49 #[.pointer (some ⟨B, 0, none⟩), .int .u32 55] w fun e w' => Traps e ∧ w' = w := by
  have HP := Keep.mk (push_trap h (55#32 - 48#32) hl)
  rw [show W32 (55#32 - 48#32) = 7 from rfl] at HP
  obtain ⟨dv, cv, iv, ov, h⟩ := h
  obtain ⟨da, dc, rfl⟩ := ownsRow_slice h.data
  have hs := h.d256
  have c2 : w.cell? ⟨B, 2, none⟩ = some (.slice da s.data.length dc) := h.cell 2
  have c6 : w.cell? ⟨B, 6, none⟩ = some (.bool false) := (h.cell 6).trans (by rw [← hd]; rfl)
  have hBl := h.lt
  clear h hd
  go_enter Tryz.func49, Tryz.ntmps49
  go_wp2_with fail
  refine HP.out.mono ?_
  rintro _ w2 ⟨rfl, rfl⟩
  exact ⟨rfl, traps_is, rfl⟩
set_option maxHeartbeats 4000000 in
theorem ex55_top {w : World} {base B M G k : Nat} {s : St} (h : MIn w base B M G s k) (hd : s.digit = true) (t : W) (d : List W) (hl : s.data = t :: d) :
    Calls Tryz.prog 49 #[.pointer (some ⟨B, 0, none⟩), .int .u32 55] w fun e w' => (∃ u, e = .returned u) ∧ MIn w' base B M G { s with data := (t * 10#32 + 55#32 - 48#32) :: d } k ∧ Mw base w w' := by
  obtain ⟨dv, cv, iv, ov, h⟩ := h
  obtain ⟨g, cap, rfl, hg1, hg2, hg3, hg4, hg5, hg6, hg7, hg8⟩ := h.top hl
  have HF := Keep.mk (h.topped hl (t * 10#32 + 55#32 - 48#32) rfl)
  have hdl : d.length < 256 := by have := h.d256; rw [hl] at this; simp at this; omega
  have c2 : w.cell? ⟨B, 2, none⟩ = some (.slice (some ⟨g, 0, none⟩) (d.length + 1) cap) := h.cell 2
  have c6 : w.cell? ⟨B, 6, none⟩ = some (.bool true) := (h.cell 6).trans (by rw [← hd]; rfl)
  have hBl := h.lt
  have e1 : IntKind.u32.wrap (W32 t * 10) = W32 (t * 10#32) := mul_lit t 10
  have e2 : IntKind.u32.wrap (W32 (t * 10#32) + 55) = W32 (t * 10#32 + 55#32) := add_lit _ 55
  have e3 : IntKind.u32.wrap (W32 (t * 10#32 + 55#32) - 48) = W32 (t * 10#32 + 55#32 - 48#32) := sub_lit _ 48
  unfold maxLen at hg2
  clear h hd hl
  go_enter Tryz.func49, Tryz.ntmps49
  go_upto_region 18 with (fail)
  go_region
  go_end0
  exact ⟨⟨_, rfl⟩, ⟨_, _, _, _, HF.out.1.drew⟩, HF.out.2.trans (Mw.drew _ _)⟩
set_option maxHeartbeats 4000000 in
theorem ex56_push {w : World} {base B M G k : Nat} {s : St} (h : MIn w base B M G s k) (hd : s.digit = false) (hl : s.data.length < 256) :
    Calls Tryz.prog 49 #[.pointer (some ⟨B, 0, none⟩), .int .u32 56] w fun e w' => (∃ u, e = .returned u) ∧ MIn w' base B M G { s with data := (56#32 - 48#32) :: s.data } k ∧ Mw base w w' := by
  have HP := Keep.mk (push_any h (56#32 - 48#32) hl)
  rw [show W32 (56#32 - 48#32) = 8 from rfl] at HP
  obtain ⟨dv, cv, iv, ov, h⟩ := h
  obtain ⟨da, dc, rfl⟩ := ownsRow_slice h.data
  have c2 : w.cell? ⟨B, 2, none⟩ = some (.slice da s.data.length dc) := h.cell 2
  have c6 : w.cell? ⟨B, 6, none⟩ = some (.bool false) := (h.cell 6).trans (by rw [← hd]; rfl)
  have hBl := h.lt
  clear h hd
  go_enter Tryz.func49, Tryz.ntmps49
  go_wp2_with fail
  refine HP.out.mono ?_
  rintro _ w2 ⟨⟨u, rfl⟩, h2⟩
  have H2 := Keep.mk h2
  clear h2
  go_wp2_with fail
  go_end0
  exact ⟨⟨_, rfl⟩, H2.out⟩
set_option maxHeartbeats 4000000 in
theorem ex56_full {w : World} {base B M G k : Nat} {s : St} (h : MIn w base B M G s k) (hd : s.digit = false) (hl : 256 ≤ s.data.length) :
    Calls Tryz.prog 49 #[.pointer (some ⟨B, 0, none⟩), .int .u32 56] w fun e w' => Traps e ∧ w' = w := by
  have HP := Keep.mk (push_trap h (56#32 - 48#32) hl)
  rw [show W32 (56#32 - 48#32) = 8 from rfl] at HP
  obtain ⟨dv, cv, iv, ov, h⟩ := h
  obtain ⟨da, dc, rfl⟩ := ownsRow_slice h.data
  have hs := h.d256
  have c2 : w.cell? ⟨B, 2, none⟩ = some (.slice da s.data.length dc) := h.cell 2
  have c6 : w.cell? ⟨B, 6, none⟩ = some (.bool false) := (h.cell 6).trans (by rw [← hd]; rfl)
  have hBl := h.lt
  clear h hd
  go_enter Tryz.func49, Tryz.ntmps49
  go_wp2_with fail
  refine HP.out.mono ?_
  rintro _ w2 ⟨rfl, rfl⟩
  exact ⟨rfl, traps_is, rfl⟩
set_option maxHeartbeats 4000000 in
theorem ex56_top {w : World} {base B M G k : Nat} {s : St} (h : MIn w base B M G s k) (hd : s.digit = true) (t : W) (d : List W) (hl : s.data = t :: d) :
    Calls Tryz.prog 49 #[.pointer (some ⟨B, 0, none⟩), .int .u32 56] w fun e w' => (∃ u, e = .returned u) ∧ MIn w' base B M G { s with data := (t * 10#32 + 56#32 - 48#32) :: d } k ∧ Mw base w w' := by
  obtain ⟨dv, cv, iv, ov, h⟩ := h
  obtain ⟨g, cap, rfl, hg1, hg2, hg3, hg4, hg5, hg6, hg7, hg8⟩ := h.top hl
  have HF := Keep.mk (h.topped hl (t * 10#32 + 56#32 - 48#32) rfl)
  have hdl : d.length < 256 := by have := h.d256; rw [hl] at this; simp at this; omega
  have c2 : w.cell? ⟨B, 2, none⟩ = some (.slice (some ⟨g, 0, none⟩) (d.length + 1) cap) := h.cell 2
  have c6 : w.cell? ⟨B, 6, none⟩ = some (.bool true) := (h.cell 6).trans (by rw [← hd]; rfl)
  have hBl := h.lt
  have e1 : IntKind.u32.wrap (W32 t * 10) = W32 (t * 10#32) := mul_lit t 10
  have e2 : IntKind.u32.wrap (W32 (t * 10#32) + 56) = W32 (t * 10#32 + 56#32) := add_lit _ 56
  have e3 : IntKind.u32.wrap (W32 (t * 10#32 + 56#32) - 48) = W32 (t * 10#32 + 56#32 - 48#32) := sub_lit _ 48
  unfold maxLen at hg2
  clear h hd hl
  go_enter Tryz.func49, Tryz.ntmps49
  go_upto_region 18 with (fail)
  go_region
  go_end0
  exact ⟨⟨_, rfl⟩, ⟨_, _, _, _, HF.out.1.drew⟩, HF.out.2.trans (Mw.drew _ _)⟩
set_option maxHeartbeats 4000000 in
theorem ex57_push {w : World} {base B M G k : Nat} {s : St} (h : MIn w base B M G s k) (hd : s.digit = false) (hl : s.data.length < 256) :
    Calls Tryz.prog 49 #[.pointer (some ⟨B, 0, none⟩), .int .u32 57] w fun e w' => (∃ u, e = .returned u) ∧ MIn w' base B M G { s with data := (57#32 - 48#32) :: s.data } k ∧ Mw base w w' := by
  have HP := Keep.mk (push_any h (57#32 - 48#32) hl)
  rw [show W32 (57#32 - 48#32) = 9 from rfl] at HP
  obtain ⟨dv, cv, iv, ov, h⟩ := h
  obtain ⟨da, dc, rfl⟩ := ownsRow_slice h.data
  have c2 : w.cell? ⟨B, 2, none⟩ = some (.slice da s.data.length dc) := h.cell 2
  have c6 : w.cell? ⟨B, 6, none⟩ = some (.bool false) := (h.cell 6).trans (by rw [← hd]; rfl)
  have hBl := h.lt
  clear h hd
  go_enter Tryz.func49, Tryz.ntmps49
  go_wp2_with fail
  refine HP.out.mono ?_
  rintro _ w2 ⟨⟨u, rfl⟩, h2⟩
  have H2 := Keep.mk h2
  clear h2
  go_wp2_with fail
  go_end0
  exact ⟨⟨_, rfl⟩, H2.out⟩
set_option maxHeartbeats 4000000 in
theorem ex57_full {w : World} {base B M G k : Nat} {s : St} (h : MIn w base B M G s k) (hd : s.digit = false) (hl : 256 ≤ s.data.length) :
    Calls Tryz.prog 49 #[.pointer (some ⟨B, 0, none⟩), .int .u32 57] w fun e w' => Traps e ∧ w' = w := by
  have HP := Keep.mk (push_trap h (57#32 - 48#32) hl)
  rw [show W32 (57#32 - 48#32) = 9 from rfl] at HP
  obtain ⟨dv, cv, iv, ov, h⟩ := h
  obtain ⟨da, dc, rfl⟩ := ownsRow_slice h.data
  have hs := h.d256
  have c2 : w.cell? ⟨B, 2, none⟩ = some (.slice da s.data.length dc) := h.cell 2
  have c6 : w.cell? ⟨B, 6, none⟩ = some (.bool false) := (h.cell 6).trans (by rw [← hd]; rfl)
  have hBl := h.lt
  clear h hd
  go_enter Tryz.func49, Tryz.ntmps49
  go_wp2_with fail
  refine HP.out.mono ?_
  rintro _ w2 ⟨rfl, rfl⟩
  exact ⟨rfl, traps_is, rfl⟩
set_option maxHeartbeats 4000000 in
theorem ex57_top {w : World} {base B M G k : Nat} {s : St} (h : MIn w base B M G s k) (hd : s.digit = true) (t : W) (d : List W) (hl : s.data = t :: d) :
    Calls Tryz.prog 49 #[.pointer (some ⟨B, 0, none⟩), .int .u32 57] w fun e w' => (∃ u, e = .returned u) ∧ MIn w' base B M G { s with data := (t * 10#32 + 57#32 - 48#32) :: d } k ∧ Mw base w w' := by
  obtain ⟨dv, cv, iv, ov, h⟩ := h
  obtain ⟨g, cap, rfl, hg1, hg2, hg3, hg4, hg5, hg6, hg7, hg8⟩ := h.top hl
  have HF := Keep.mk (h.topped hl (t * 10#32 + 57#32 - 48#32) rfl)
  have hdl : d.length < 256 := by have := h.d256; rw [hl] at this; simp at this; omega
  have c2 : w.cell? ⟨B, 2, none⟩ = some (.slice (some ⟨g, 0, none⟩) (d.length + 1) cap) := h.cell 2
  have c6 : w.cell? ⟨B, 6, none⟩ = some (.bool true) := (h.cell 6).trans (by rw [← hd]; rfl)
  have hBl := h.lt
  have e1 : IntKind.u32.wrap (W32 t * 10) = W32 (t * 10#32) := mul_lit t 10
  have e2 : IntKind.u32.wrap (W32 (t * 10#32) + 57) = W32 (t * 10#32 + 57#32) := add_lit _ 57
  have e3 : IntKind.u32.wrap (W32 (t * 10#32 + 57#32) - 48) = W32 (t * 10#32 + 57#32 - 48#32) := sub_lit _ 48
  unfold maxLen at hg2
  clear h hd hl
  go_enter Tryz.func49, Tryz.ntmps49
  go_upto_region 18 with (fail)
  go_region
  go_end0
  exact ⟨⟨_, rfl⟩, ⟨_, _, _, _, HF.out.1.drew⟩, HF.out.2.trans (Mw.drew _ _)⟩
end Go.Proofs.YtojgopbaiflfgaaGreatDoor
