/- machine.execute at the signs whose regions keep the text's order: space, line feed, ?, ;, comma, $. No condition. -/
import Derived.Test.YtojgopbaiflfgaaGreatDoorTpExecBase
namespace Go.Proofs.YtojgopbaiflfgaaGreatDoor
set_option maxRecDepth 100000
open Go.RowKit Go.Shelf Go.Proofs.YtojgopbaiflfgaaGreatDoor.B2

section
variable {w : World} {base B M G k : Nat} {s : St}
set_option maxHeartbeats 4000000 in
theorem ex32 (w : World) (B : Nat) : Calls Tryz.prog 49 #[.pointer (some ⟨B, 0, none⟩), .int .u32 32] w fun e w' => (∃ u, e = .returned u) ∧ w' = w := by
  go_enter Tryz.func49, Tryz.ntmps49
  go_wp2_with fail
  go_end0
  exact ⟨⟨_, rfl⟩, rfl⟩
set_option maxHeartbeats 4000000 in
theorem ex10 (w : World) (B : Nat) : Calls Tryz.prog 49 #[.pointer (some ⟨B, 0, none⟩), .int .u32 10] w fun e w' => (∃ u, e = .returned u) ∧ w' = w := by
  go_enter Tryz.func49, Tryz.ntmps49
  go_wp2_with fail
  go_end0
  exact ⟨⟨_, rfl⟩, rfl⟩
set_option maxHeartbeats 4000000 in
theorem ex36 (h : MIn w base B M G s k) : Calls Tryz.prog 49 #[.pointer (some ⟨B, 0, none⟩), .int .u32 36] w fun e w' => (∃ u, e = .returned u) ∧ MIn w' base B M G { s with stop := true } k ∧ Mw base w w' := by
  obtain ⟨dv, cv, iv, ov, h⟩ := h
  have HF := Keep.mk (h.setB (s' := { s with stop := true }) (k' := k) (dv' := dv) (cv' := cv) (iv' := iv) (ov' := ov) 8 (.bool true) rfl rfl h.data h.calls h.inp h.inpb h.out h.dM h.cM h.dc h.d256 h.c64 h.o20)
  have HM := Keep.mk (h.mw 8 (.bool true))
  have c8 : w.cell? ⟨B, 8, none⟩ = some (.bool s.stop) := h.cell 8
  have f8 : w.frozen? ⟨B, 8, none⟩ = false := h.frozen 8
  have hBl := h.lt
  clear h
  go_enter Tryz.func49, Tryz.ntmps49
  go_wp2_with fail
  go_end0
  exact ⟨⟨_, rfl⟩, ⟨_, _, _, _, HF.out⟩, HM.out⟩
set_option maxHeartbeats 4000000 in
theorem ex63_no (h : MIn w base B M G s k) (hl : s.data = []) : Calls Tryz.prog 49 #[.pointer (some ⟨B, 0, none⟩), .int .u32 63] w fun e w' => Traps e ∧ w' = w := by
  have HP := Keep.mk (pop_trap h hl)
  clear h hl
  go_enter Tryz.func49, Tryz.ntmps49
  go_wp2_with fail
  refine HP.out.mono ?_
  rintro _ w2 ⟨rfl, rfl⟩
  exact ⟨rfl, traps_is, rfl⟩
set_option maxHeartbeats 4000000 in
theorem ex63_one (h : MIn w base B M G s k) (t : W) (hl : s.data = [t]) : Calls Tryz.prog 49 #[.pointer (some ⟨B, 0, none⟩), .int .u32 63] w fun e w' => Traps e ∧ MIn w' base B M G { s with data := [] } k ∧ Mw base w w' := by
  have HP := Keep.mk (pop_any h t [] hl)
  clear h hl
  go_enter Tryz.func49, Tryz.ntmps49
  go_wp2_with fail
  refine HP.out.mono ?_
  rintro _ w2 ⟨rfl, h2⟩
  have H2 := Keep.mk h2
  clear h2
  go_wp2_with fail
  refine (pop_trap H2.out.1 rfl).mono ?_
  rintro _ w3 ⟨rfl, rfl⟩
  refine ⟨rfl, traps_is, ?_⟩
  exact H2.out
set_option maxHeartbeats 4000000 in
theorem ex63_any (h : MIn w base B M G s k) (t v p : W) (d : List W) (hl : s.data = t :: v :: d) (hp : (if v = 0#32 then t else s.pc) = p) : Calls Tryz.prog 49 #[.pointer (some ⟨B, 0, none⟩), .int .u32 63] w fun e w' => (∃ u, e = .returned u) ∧ MIn w' base B M G { s with pc := p, data := d } k ∧ Mw base w w' := by
  have HP := Keep.mk (pop_any h t (v :: d) hl)
  clear h hl
  go_enter Tryz.func49, Tryz.ntmps49
  go_wp2_with fail
  refine HP.out.mono ?_
  rintro _ w2 ⟨rfl, h2⟩
  have H2 := Keep.mk h2
  clear h2 HP
  go_wp2_with fail
  refine (pop_any H2.out.1 v d rfl).mono ?_
  rintro _ w3 ⟨rfl, h3⟩
  have H3 := Keep.mk h3
  clear h3
  by_cases hv : v = 0#32
  · have e1 : (W32 v == 0) = true := by rw [hv]; rfl
    obtain ⟨dv, cv, iv, ov, h3⟩ := H3.out.1
    have HF := Keep.mk (h3.setB (s' := { s with pc := t, data := d }) (k' := k) (dv' := dv) (cv' := cv) (iv' := iv) (ov' := ov) 1 (.int .u32 (W32 t)) rfl rfl h3.data h3.calls h3.inp h3.inpb h3.out h3.dM h3.cM h3.dc h3.d256 h3.c64 h3.o20)
    have HM := Keep.mk (h3.mw 1 (.int .u32 (W32 t)))
    have c1 : w3.cell? ⟨B, 1, none⟩ = some (.int .u32 (W32 s.pc)) := h3.cell 1
    have f1 : w3.frozen? ⟨B, 1, none⟩ = false := h3.frozen 1
    have hBl := h3.lt
    rw [if_pos hv] at hp
    subst hp
    clear h3 hv
    go_wp2_with fail
    go_end0
    exact ⟨⟨_, rfl⟩, ⟨_, _, _, _, HF.out⟩, (H2.out.2.trans H3.out.2).trans HM.out⟩
  · have e1 : (W32 v == 0) = false := by simpa using nz_W32 hv
    rw [if_neg hv] at hp
    subst hp
    clear hv
    go_wp2_with fail
    go_end0
    exact ⟨⟨_, rfl⟩, H3.out.1, H2.out.2.trans H3.out.2⟩
set_option maxHeartbeats 4000000 in
theorem ex59_no (h : MIn w base B M G s k) (hl : s.calls = []) : Calls Tryz.prog 49 #[.pointer (some ⟨B, 0, none⟩), .int .u32 59] w fun e w' => Traps e ∧ w' = w := by
  obtain ⟨dv, cv, iv, ov, h⟩ := h
  have hd := h.calls
  rw [hl] at hd
  obtain ⟨da, dc, rfl⟩ := ownsRow_slice hd
  have c3 : w.cell? ⟨B, 3, none⟩ = some (.slice da 0 dc) := h.cell 3
  have hBl := h.lt
  clear h hd hl
  go_enter Tryz.func49, Tryz.ntmps49
  go_wp2_with fail
  refine (check_bad _).mono ?_
  rintro _ w2 ⟨rfl, rfl⟩
  exact ⟨rfl, traps_is, rfl⟩
set_option maxHeartbeats 4000000 in
theorem ex59_any (h : MIn w base B M G s k) (r : W) (cs : List W) (hl : s.calls = r :: cs) : Calls Tryz.prog 49 #[.pointer (some ⟨B, 0, none⟩), .int .u32 59] w fun e w' => (∃ u, e = .returned u) ∧ MIn w' base B M G { s with pc := r, calls := cs } k ∧ Mw base w w' := by
  obtain ⟨dv, cv, iv, ov, h⟩ := h
  have hd := h.calls
  rw [hl] at hd
  obtain ⟨g, cap, rfl, hg1, hg2, hg3, hg4, hrow⟩ := row_top hd
  have hcl : cs.length < 64 := by have := h.c64; rw [hl] at this; simp at this; omega
  have H1 := Keep.mk (h.setB (s' := { s with pc := r }) (k' := k) (dv' := dv) (cv' := .slice (some ⟨g, 0, none⟩) (cs.length + 1) cap) (iv' := iv) (ov' := ov) 1 (.int .u32 (W32 r)) rfl rfl h.data h.calls h.inp h.inpb h.out h.dM h.cM h.dc h.d256 h.c64 h.o20)
  have HM1 := Keep.mk (h.mw 1 (.int .u32 (W32 r)))
  have hrow1 : (w.setCell ⟨B, 1, none⟩ (.int .u32 (W32 r))).ownsRow base 29 1 (.slice (some ⟨g, 0, none⟩) cs.length cap) cs.length (wvs cs.reverse) := row_kept hrow (setCell_grown w ⟨B, 1, none⟩ _) (fun q e => by
    simp only [Option.some.injEq] at e; subst e; exact row_ty hrow h.box (by decide))
  have H2 := Keep.mk (H1.out.setB (s' := { s with pc := r, calls := cs }) (k' := k) (dv' := dv) (cv' := .slice (some ⟨g, 0, none⟩) cs.length cap) (iv' := iv) (ov' := ov) 3 (.slice (some ⟨g, 0, none⟩) cs.length cap) rfl rfl H1.out.data hrow1 H1.out.inp H1.out.inpb H1.out.out H1.out.dM H1.out.cM H1.out.dc H1.out.d256 (by show cs.length ≤ 64; omega) H1.out.o20)
  have HM2 := Keep.mk (H1.out.mw 3 (.slice (some ⟨g, 0, none⟩) cs.length cap))
  have c1 : w.cell? ⟨B, 1, none⟩ = some (.int .u32 (W32 s.pc)) := h.cell 1
  have f1 : w.frozen? ⟨B, 1, none⟩ = false := h.frozen 1
  have c3 : w.cell? ⟨B, 3, none⟩ = some (.slice (some ⟨g, 0, none⟩) (cs.length + 1) cap) := h.cell 3
  have f3 : w.frozen? ⟨B, 3, none⟩ = false := h.frozen 3
  have hBl := h.lt
  unfold maxLen at hg2
  clear h hd hl hrow hrow1
  go_enter Tryz.func49, Tryz.ntmps49
  go_wp2_with fail
  refine (check_ok _).mono ?_
  rintro _ w2 ⟨⟨u, rfl⟩, rfl⟩
  go_wp2_with fail
  go_end0
  exact ⟨⟨_, rfl⟩, ⟨_, _, _, _, H2.out⟩, HM1.out.trans HM2.out⟩
set_option maxHeartbeats 4000000 in
theorem ex44_end (h : MIn w base B M G s k) (hl : s.inp = []) (hd : s.data.length < 256) : Calls Tryz.prog 49 #[.pointer (some ⟨B, 0, none⟩), .int .u32 44] w fun e w' => (∃ u, e = .returned u) ∧ MIn w' base B M G { s with data := 4294967295#32 :: s.data } k ∧ Mw base w w' := by
  have HP := Keep.mk (push_any h 4294967295#32 hd)
  rw [show W32 4294967295#32 = 4294967295 from rfl] at HP
  obtain ⟨dv, cv, iv, ov, h⟩ := h
  obtain ⟨a, cap, rfl, -⟩ := h.inp
  rw [hl] at h
  have c4 : w.cell? ⟨B, 4, none⟩ = some (.slice a 0 cap) := h.cell 4
  have hBl := h.lt
  clear h hl hd
  go_enter Tryz.func49, Tryz.ntmps49
  go_wp2_with fail
  refine HP.out.mono ?_
  rintro _ w2 ⟨⟨u, rfl⟩, h2⟩
  have H2 := Keep.mk h2
  clear h2
  go_wp2_with fail
  go_end0
  exact ⟨⟨_, rfl⟩, H2.out⟩
set_option maxHeartbeats 4000000 in
theorem ex44_full (h : MIn w base B M G s k) (hl : s.inp = []) (hd : 256 ≤ s.data.length) : Calls Tryz.prog 49 #[.pointer (some ⟨B, 0, none⟩), .int .u32 44] w fun e w' => Traps e ∧ w' = w := by
  have HP := Keep.mk (push_trap h 4294967295#32 hd)
  rw [show W32 4294967295#32 = 4294967295 from rfl] at HP
  obtain ⟨dv, cv, iv, ov, h⟩ := h
  obtain ⟨a, cap, rfl, -⟩ := h.inp
  rw [hl] at h
  have c4 : w.cell? ⟨B, 4, none⟩ = some (.slice a 0 cap) := h.cell 4
  have hBl := h.lt
  clear h hl hd
  go_enter Tryz.func49, Tryz.ntmps49
  go_wp2_with fail
  refine HP.out.mono ?_
  rintro _ w2 ⟨rfl, rfl⟩
  exact ⟨rfl, traps_is, rfl⟩
set_option maxHeartbeats 4000000 in
theorem ex44_any (h : MIn w base B M G s k) (x : W) (l : List W) (hl : s.inp = x :: l) (hd : s.data.length < 256) : Calls Tryz.prog 49 #[.pointer (some ⟨B, 0, none⟩), .int .u32 44] w fun e w' => (∃ u, e = .returned u) ∧ MIn w' base B M G { s with inp := l, data := x :: s.data } k ∧ Mw base w w' := by
  obtain ⟨dv, cv, iv, ov, h⟩ := h
  have hi := h.inp
  rw [hl] at hi
  obtain ⟨b, o, cap, rfl, hi1, hi2, hi3, hi4, htail⟩ := slc_tail hi
  have hib : b < base := h.inpb b rfl
  have H1 := Keep.mk (h.setB (s' := { s with inp := l }) (k' := k) (dv' := dv) (cv' := cv) (iv' := .slice (if cap = 1 then some ⟨b, o, none⟩ else some ⟨b, o + 1, none⟩) l.length (cap - 1)) (ov' := ov) 4 (.slice (if cap = 1 then some ⟨b, o, none⟩ else some ⟨b, o + 1, none⟩) l.length (cap - 1)) rfl rfl h.data h.calls htail (fun q e => by split at e <;> (simp only [Value.ownBlock, Option.some.injEq] at e; omega)) h.out h.dM h.cM h.dc h.d256 h.c64 h.o20)
  have HM1 := Keep.mk (h.mw 4 (.slice (if cap = 1 then some ⟨b, o, none⟩ else some ⟨b, o + 1, none⟩) l.length (cap - 1)))
  have c4 : w.cell? ⟨B, 4, none⟩ = some (.slice (some ⟨b, o, none⟩) (l.length + 1) cap) := h.cell 4
  have f4 : w.frozen? ⟨B, 4, none⟩ = false := h.frozen 4
  have hBl := h.lt
  unfold maxLen at hi2
  clear h hl hi htail
  go_enter Tryz.func49, Tryz.ntmps49
  go_upto_region 46 with (fail)
  generalize (Value.slice (if cap = 1 then some ⟨b, o, none⟩ else some ⟨b, o + 1, none⟩) l.length (cap - 1)) = V at *
  generalize w.setCell ⟨B, 4, none⟩ V = w1 at *
  go_wp2_with fail
  refine (push_any (s := { s with inp := l }) ⟨_, _, _, _, H1.out⟩ x hd).mono ?_
  rintro _ w2 ⟨⟨u, rfl⟩, h2⟩
  have H2 := Keep.mk h2
  clear h2
  go_wp2_with fail
  go_end0
  exact ⟨⟨_, rfl⟩, H2.out.1, HM1.out.trans H2.out.2⟩
set_option maxHeartbeats 4000000 in
theorem ex44_more (h : MIn w base B M G s k) (x : W) (l : List W) (hl : s.inp = x :: l) (hd : 256 ≤ s.data.length) : Calls Tryz.prog 49 #[.pointer (some ⟨B, 0, none⟩), .int .u32 44] w fun e w' => Traps e ∧ MIn w' base B M G { s with inp := l } k ∧ Mw base w w' := by
  obtain ⟨dv, cv, iv, ov, h⟩ := h
  have hi := h.inp
  rw [hl] at hi
  obtain ⟨b, o, cap, rfl, hi1, hi2, hi3, hi4, htail⟩ := slc_tail hi
  have hib : b < base := h.inpb b rfl
  have H1 := Keep.mk (h.setB (s' := { s with inp := l }) (k' := k) (dv' := dv) (cv' := cv) (iv' := .slice (if cap = 1 then some ⟨b, o, none⟩ else some ⟨b, o + 1, none⟩) l.length (cap - 1)) (ov' := ov) 4 (.slice (if cap = 1 then some ⟨b, o, none⟩ else some ⟨b, o + 1, none⟩) l.length (cap - 1)) rfl rfl h.data h.calls htail (fun q e => by split at e <;> (simp only [Value.ownBlock, Option.some.injEq] at e; omega)) h.out h.dM h.cM h.dc h.d256 h.c64 h.o20)
  have HM1 := Keep.mk (h.mw 4 (.slice (if cap = 1 then some ⟨b, o, none⟩ else some ⟨b, o + 1, none⟩) l.length (cap - 1)))
  have c4 : w.cell? ⟨B, 4, none⟩ = some (.slice (some ⟨b, o, none⟩) (l.length + 1) cap) := h.cell 4
  have f4 : w.frozen? ⟨B, 4, none⟩ = false := h.frozen 4
  have hBl := h.lt
  unfold maxLen at hi2
  clear h hl hi htail
  go_enter Tryz.func49, Tryz.ntmps49
  go_upto_region 46 with (fail)
  generalize (Value.slice (if cap = 1 then some ⟨b, o, none⟩ else some ⟨b, o + 1, none⟩) l.length (cap - 1)) = V at *
  generalize w.setCell ⟨B, 4, none⟩ V = w1 at *
  go_wp2_with fail
  refine (push_trap (s := { s with inp := l }) ⟨_, _, _, _, H1.out⟩ x hd).mono ?_
  rintro _ w2 ⟨rfl, rfl⟩
  exact ⟨rfl, traps_is, ⟨_, _, _, _, H1.out⟩, HM1.out⟩
end
end Go.Proofs.YtojgopbaiflfgaaGreatDoor
