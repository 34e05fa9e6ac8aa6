/- machine.execute at !. No condition. -/
import Derived.Test.YtojgopbaiflfgaaGreatDoorTpExecReg
namespace Go.Proofs.YtojgopbaiflfgaaGreatDoor
set_option maxRecDepth 100000
open Go.RowKit Go.Shelf Go.Proofs.YtojgopbaiflfgaaGreatDoor.B2

def es26 (B M : Nat) (a v : W) : List (Option Value) := [some (.pointer (some ⟨B, 0, none⟩)), some (.pointer (some ⟨B, 0, none⟩)), some (.pointer (some ⟨B, 0, none⟩)), some (.slice (some ⟨M, 0, none⟩) 262144 262144), some (.int .u32 (W32 a)), some (.pointer (some ⟨B, 0, none⟩)), some (.int .u32 (W32 v)), some (.pointer (some ⟨M, a.toNat, none⟩))]
/-- The memory while ! is carried out. -/
structure S26 (w : World) (base B M G k : Nat) (s : St) (a v : W) (d : List W) (c6 c8 : Bool) (wx : World) : Prop where
  mw : Mw base w wx
  h0 : c6 = false → MIn wx base B M G s k
  h6 : c6 = true → c8 = false → MIn wx base B M G { s with data := d } k
  h8 : c8 = true → c6 = true ∧ MIn wx base B M G { s with mem := fun i => if i = a.toNat then v else s.mem i, data := d } k
section
variable {w : World} {base B M G k : Nat} {s : St} {a v : W} {d : List W}
theorem S26.any {wx : World} {c6 c8 : Bool} (h : S26 w base B M G k s a v d c6 c8 wx) : ∃ s', MIn wx base B M G s' k := by
  cases h6 : c6 with
  | false => exact ⟨_, h.h0 h6⟩
  | true =>
    cases h8 : c8 with
    | false => exact ⟨_, h.h6 h6 h8⟩
    | true => exact ⟨_, (h.h8 h8).2⟩
theorem S26.skip {L : Nat → Bool} {wx : World} (h : S26 w base B M G k s a v d (L 6) (L 8) wx) (i : Nat) (h6 : (6 == i) = false) (h8 : (8 == i) = false) : S26 w base B M G k s a v d ((fun j => L j || j == i) 6) ((fun j => L j || j == i) 8) wx := by
  simpa [h6, h8] using h
theorem S26.start (h : MIn w base B M G s k) : S26 w base B M G k s a v d false false w.drew :=
  ⟨Mw.drew _ _, fun _ => h.drew, (fun h _ => by cases h), (fun h => by cases h)⟩
end
set_option maxHeartbeats 4000000 in
theorem ex33_addr {w : World} {base B M G k : Nat} {s : St} (hc : Calls Tryz.prog 64 #[.pointer (some ⟨B, 0, none⟩)] w (TrapEnd w base B M G k s)) :
    Calls Tryz.prog 49 #[.pointer (some ⟨B, 0, none⟩), .int .u32 33] w (TrapEnd w base B M G k s) := by
  have HC := Keep.mk hc
  clear hc
  go_enter Tryz.func49, Tryz.ntmps49
  go_wp2_with fail
  refine HC.out.mono ?_
  rintro _ wy ⟨rfl, hm⟩
  exact ⟨rfl, traps_is, hm⟩
set_option maxHeartbeats 8000000 in
theorem ex33_any {w : World} {base B M G k : Nat} {s : St} (h : MIn w base B M G s k) (a v : W) (d : List W) (hl : s.data = a :: v :: d) (ha : a.toNat < 262144) : Calls Tryz.prog 49 #[.pointer (some ⟨B, 0, none⟩), .int .u32 33] w fun e w' => (∃ u, e = .returned u) ∧ MIn w' base B M G { s with mem := fun i => if i = a.toNat then v else s.mem i, data := d } k ∧ Mw base w w' := by
  have HA := Keep.mk (addr_any h a (v :: d) hl ha)
  clear h
  go_enter Tryz.func49, Tryz.ntmps49
  go_wp2_with fail
  refine HA.out.mono ?_
  rintro _ w2 ⟨rfl, h2⟩
  have H := Keep.mk h2.1
  have HW := Keep.mk h2.2
  have hBl := h2.1.lt
  clear h2 HA hl
  go_upto_region 26 with (fail)
  refine wp_region_inv8 (P := Tryz.prog) (Fr := fun v0 v1 v2 v3 v4 v5 v6 v7 => { tmps := #[.pointer (some ⟨B, 0, none⟩), .int .u32 33, undef, undef, undef, .int .u32 (W32 a), undef, undef, undef, undef, undef, undef, undef, undef, .int .u32 33, undef, undef, undef, undef, undef, undef, undef, undef, undef, undef, undef, undef, undef, undef, undef, undef, undef, undef, undef, undef, undef, .bool false, .bool false, .bool false, .bool false, .bool false, .bool false, .bool false, .bool false, .bool false, .bool false, .bool false, undef, undef, undef, undef, undef, undef, undef, undef, undef, undef, undef, undef, undef, undef, undef, undef, undef, undef, undef, undef, undef, undef, undef, undef, undef, undef, undef, undef, undef, undef, undef, .bool false, .bool false, .bool false, .bool false, .bool false, undef, undef, undef, undef, undef, undef, undef, undef, undef, undef, .bool true, .bool true, .pointer (some ⟨B, 0, none⟩), .int .u32 (W32 a), v0, v1, v2, v3, v4, v5, v6, v7, undef, undef, undef, undef, undef, undef, undef, undef, undef, undef, undef, undef, undef, undef, undef, undef, undef, undef, undef, undef, undef, undef, undef, undef, undef, undef, undef, undef, undef, undef, undef, undef, undef, undef, undef, undef, undef, undef, undef, undef, undef, undef, undef, undef, undef, undef, undef, undef, undef, undef, undef, undef, undef, undef, undef, undef, undef, undef, undef, undef, undef, undef, undef, undef, undef, undef, undef, undef, undef, undef, undef, undef, undef, undef, undef, undef, undef, undef, undef, undef, undef, undef, undef, undef, undef, undef, undef, undef, undef, undef, undef, undef, undef, undef, undef, undef, undef, undef, undef, undef, undef, undef, undef, undef, undef, undef, undef, undef, undef, undef, undef, undef, undef, undef], defers := [] })
    undef undef undef undef undef undef undef undef (fun L v0 v1 v2 v3 v4 v5 v6 v7 wx => RG (es26 B M a v) L [v0, v1, v2, v3, v4, v5, v6, v7] ∧ S26 w2 base B M G k { s with data := v :: d } a v d (L 6) (L 8) wx) ?_ ?_ ?_ ?_ ?_
  · kernel_rfl
  · kernel_rfl
  · exact ⟨RG.zero (by simp [es26]), S26.start H.out⟩
  · refine ⟨?_, ?_, ?_, ?_, ?_, ?_, ?_, ?_, ?_, trivial⟩
    · intro L v0 v1 v2 v3 v4 v5 v6 v7 wx hL hd hR K' hK
      rw [if_pos (by rfl)]
      obtain ⟨hR, hS⟩ := hR
      have HR := Keep.mk hR
      have HS := Keep.mk hS
      have HK := Keep.mk hK
      clear hd hL hR hS hK
      go_simp
      exact HK.out _ _ _ _ _ _ _ _ _ ⟨HR.out.put 0 (.pointer (some ⟨B, 0, none⟩)) (by simp) (by simp [es26]), HS.out.skip 0 (by decide) (by decide)⟩
    · intro L v0 v1 v2 v3 v4 v5 v6 v7 wx hL hd hR K' hK
      rw [if_pos (by rfl)]
      have hd' : L 0 = true := by simpa [Region.binds] using hd
      obtain ⟨hR, hS⟩ := hR
      obtain rfl := hR.at 0 (e := (.pointer (some ⟨B, 0, none⟩))) rfl rfl hd'
      have HR := Keep.mk hR
      have HS := Keep.mk hS
      have HK := Keep.mk hK
      clear hd hL hR hS hK hd'
      go_simp
      exact HK.out _ _ _ _ _ _ _ _ _ ⟨HR.out.put 1 (.pointer (some ⟨B, 0, none⟩)) (by simp) (by simp [es26]), HS.out.skip 1 (by decide) (by decide)⟩
    · intro L v0 v1 v2 v3 v4 v5 v6 v7 wx hL hd hR K' hK
      rw [if_pos (by rfl)]
      have hd' : L 1 = true := by simpa [Region.binds] using hd
      obtain ⟨hR, hS⟩ := hR
      obtain rfl := hR.at 1 (e := (.pointer (some ⟨B, 0, none⟩))) rfl rfl hd'
      have HR := Keep.mk hR
      have HS := Keep.mk hS
      have HK := Keep.mk hK
      clear hd hL hR hS hK hd'
      go_simp
      exact HK.out _ _ _ _ _ _ _ _ _ ⟨HR.out.put 2 (.pointer (some ⟨B, 0, none⟩)) (by simp) (by simp [es26]), HS.out.skip 2 (by decide) (by decide)⟩
    · intro L v0 v1 v2 v3 v4 v5 v6 v7 wx hL hd hR K' hK
      rw [if_pos (by rfl)]
      have hd' : L 2 = true := by simpa [Region.binds] using hd
      obtain ⟨hR, hS⟩ := hR
      obtain rfl := hR.at 2 (e := (.pointer (some ⟨B, 0, none⟩))) rfl rfl hd'
      obtain ⟨s', hm⟩ := hS.any
      have hm0 := hm.mem0
      have hbl := hm.lt
      clear hm
      have HR := Keep.mk hR
      have HS := Keep.mk hS
      have HK := Keep.mk hK
      clear hd hL hR hS hK hd'
      go_simp
      exact HK.out _ _ _ _ _ _ _ _ _ ⟨HR.out.put 3 (.slice (some ⟨M, 0, none⟩) 262144 262144) (by simp) (by simp [es26]), HS.out.skip 3 (by decide) (by decide)⟩
    · intro L v0 v1 v2 v3 v4 v5 v6 v7 wx hL hd hR K' hK
      rw [if_pos (by rfl)]
      obtain ⟨hR, hS⟩ := hR
      have HR := Keep.mk hR
      have HS := Keep.mk hS
      have HK := Keep.mk hK
      clear hd hL hR hS hK
      go_simp
      exact HK.out _ _ _ _ _ _ _ _ _ ⟨HR.out.put 4 (.int .u32 (W32 a)) (by simp) (by simp [es26]), HS.out.skip 4 (by decide) (by decide)⟩
    · intro L v0 v1 v2 v3 v4 v5 v6 v7 wx hL hd hR K' hK
      rw [if_pos (by rfl)]
      obtain ⟨hR, hS⟩ := hR
      have HR := Keep.mk hR
      have HS := Keep.mk hS
      have HK := Keep.mk hK
      clear hd hL hR hS hK
      go_simp
      exact HK.out _ _ _ _ _ _ _ _ _ ⟨HR.out.put 5 (.pointer (some ⟨B, 0, none⟩)) (by simp) (by simp [es26]), HS.out.skip 5 (by decide) (by decide)⟩
    · intro L v0 v1 v2 v3 v4 v5 v6 v7 wx hL hd hR K' hK
      rw [if_pos (by rfl)]
      have hd' : L 5 = true := by simpa [Region.binds] using hd
      obtain ⟨hR, hS⟩ := hR
      obtain rfl := hR.at 5 (e := (.pointer (some ⟨B, 0, none⟩))) rfl rfl hd'
      have h0 := hS.h0 hL
      have H0 := Keep.mk h0
      have HL := Keep.mk hL
      clear h0
      have HR := Keep.mk hR
      have HS := Keep.mk hS
      have HK := Keep.mk hK
      clear hd hL hR hS hK hd'
      go_simp
      refine (pop_any H0.out v d rfl).mono ?_
      rintro _ wy ⟨rfl, hm, hw⟩
      refine HK.out _ _ _ _ _ _ _ _ _ ⟨HR.out.put 6 (.int .u32 (W32 v)) (by simp) (by simp [es26]), HS.out.mw.trans hw, fun h => by simp at h, fun _ _ => hm, fun h => ?_⟩
      have h8 : L 8 = true := by simpa using h
      have h6 := (HS.out.h8 h8).1
      rw [HL.out] at h6
      cases h6
    · intro L v0 v1 v2 v3 v4 v5 v6 v7 wx hL hd hR K' hK
      rw [if_pos (by rfl)]
      have hd' : L 3 = true ∧ L 4 = true ∧ L 0 = true ∧ L 1 = true ∧ L 2 = true ∧ L 3 = true ∧ L 4 = true ∧ L 5 = true ∧ L 6 = true := by simpa [Region.binds] using hd
      obtain ⟨hR, hS⟩ := hR
      obtain rfl := hR.at 3 (e := (.slice (some ⟨M, 0, none⟩) 262144 262144)) rfl rfl hd'.1
      obtain rfl := hR.at 4 (e := (.int .u32 (W32 a))) rfl rfl hd'.2.1
      have fa0 : (0 : Int) ≤ W32 a := W32_lo a
      have fa1 : W32 a < 262144 := by unfold W32; omega
      have fa2 : (W32 a).toNat = a.toNat := rfl
      have HR := Keep.mk hR
      have HS := Keep.mk hS
      have HK := Keep.mk hK
      clear hd hL hR hS hK hd'
      go_simp
      exact HK.out _ _ _ _ _ _ _ _ _ ⟨HR.out.put 7 (.pointer (some ⟨M, a.toNat, none⟩)) (by simp) (by simp [es26]), HS.out.skip 7 (by decide) (by decide)⟩
    · intro L v0 v1 v2 v3 v4 v5 v6 v7 wx hL hd hR K' hK
      rw [if_pos (by rfl)]
      have hd' : L 7 = true ∧ L 6 = true ∧ L 6 = true ∧ L 0 = true ∧ L 1 = true ∧ L 2 = true ∧ L 3 = true ∧ L 4 = true ∧ L 5 = true ∧ L 6 = true := by simpa [Region.binds] using hd
      obtain ⟨hR, hS⟩ := hR
      obtain rfl := hR.at 7 (e := (.pointer (some ⟨M, a.toNat, none⟩))) rfl rfl hd'.1
      obtain rfl := hR.at 6 (e := (.int .u32 (W32 v))) rfl rfl hd'.2.1
      have h6 := hS.h6 hd'.2.1 hL
      obtain ⟨dv, cv, iv, ov, hm⟩ := h6
      have HM := Keep.mk hm
      have HD := Keep.mk hd'.2.1
      have HL := Keep.mk hL
      have hc := hm.mem.cell ha
      have hf := hm.mem.frozen a.toNat
      have hml := hm.mem.lt
      clear hm
      have HR := Keep.mk hR
      have HS := Keep.mk hS
      have HK := Keep.mk hK
      clear hd hL hR hS hK hd'
      go_simp
      have hF := HM.out.stored a.toNat v
      exact HK.out _ _ _ _ _ _ _ _ _ ⟨HR.out.keep 8 (by simp [es26]), HS.out.mw.trans hF.2, fun h => by simp [HD.out] at h, fun _ h => by simp at h, fun _ => ⟨by simp [HD.out], ⟨_, _, _, _, hF.1⟩⟩⟩
  · intro v0 v1 v2 v3 v4 v5 v6 v7 wx hR
    have hF := (hR.2.h8 rfl).2
    have hM := HW.out.trans hR.2.mw
    clear hR
    go_end0
    exact ⟨⟨_, rfl⟩, hF, hM⟩
set_option maxHeartbeats 8000000 in
theorem ex33_trap {w : World} {base B M G k : Nat} {s : St} (h : MIn w base B M G s k) (a : W) (d : List W) (hl : s.data = a :: d) (ha : a.toNat < 262144) (hc : ∀ wx, MIn wx base B M G { s with data := d } k → Calls Tryz.prog 65 #[.pointer (some ⟨B, 0, none⟩)] wx (TrapEnd wx base B M G k { s with data := d })) :
    Calls Tryz.prog 49 #[.pointer (some ⟨B, 0, none⟩), .int .u32 33] w (TrapEnd w base B M G k s) := by
  have HA := Keep.mk (addr_any h a d hl ha)
  have HC := Keep.mk hc
  clear h hc
  go_enter Tryz.func49, Tryz.ntmps49
  go_wp2_with fail
  refine HA.out.mono ?_
  rintro _ w2 ⟨rfl, h2⟩
  have H := Keep.mk h2.1
  have HW := Keep.mk h2.2
  have hBl := h2.1.lt
  clear h2 HA hl
  go_upto_region 26 with (fail)
  refine wp_region_inv8 (P := Tryz.prog) (Fr := fun v0 v1 v2 v3 v4 v5 v6 v7 => { tmps := #[.pointer (some ⟨B, 0, none⟩), .int .u32 33, undef, undef, undef, .int .u32 (W32 a), undef, undef, undef, undef, undef, undef, undef, undef, .int .u32 33, undef, undef, undef, undef, undef, undef, undef, undef, undef, undef, undef, undef, undef, undef, undef, undef, undef, undef, undef, undef, undef, .bool false, .bool false, .bool false, .bool false, .bool false, .bool false, .bool false, .bool false, .bool false, .bool false, .bool false, undef, undef, undef, undef, undef, undef, undef, undef, undef, undef, undef, undef, undef, undef, undef, undef, undef, undef, undef, undef, undef, undef, undef, undef, undef, undef, undef, undef, undef, undef, undef, .bool false, .bool false, .bool false, .bool false, .bool false, undef, undef, undef, undef, undef, undef, undef, undef, undef, undef, .bool true, .bool true, .pointer (some ⟨B, 0, none⟩), .int .u32 (W32 a), v0, v1, v2, v3, v4, v5, v6, v7, undef, undef, undef, undef, undef, undef, undef, undef, undef, undef, undef, undef, undef, undef, undef, undef, undef, undef, undef, undef, undef, undef, undef, undef, undef, undef, undef, undef, undef, undef, undef, undef, undef, undef, undef, undef, undef, undef, undef, undef, undef, undef, undef, undef, undef, undef, undef, undef, undef, undef, undef, undef, undef, undef, undef, undef, undef, undef, undef, undef, undef, undef, undef, undef, undef, undef, undef, undef, undef, undef, undef, undef, undef, undef, undef, undef, undef, undef, undef, undef, undef, undef, undef, undef, undef, undef, undef, undef, undef, undef, undef, undef, undef, undef, undef, undef, undef, undef, undef, undef, undef, undef, undef, undef, undef, undef, undef, undef, undef, undef, undef, undef, undef, undef], defers := [] })
    undef undef undef undef undef undef undef undef (fun L v0 v1 v2 v3 v4 v5 v6 v7 wx => RG (es26 B M a 0) L [v0, v1, v2, v3, v4, v5, v6, v7] ∧ ST w2 base B M G k { s with data := d } (L 6) (L 7) wx) ?_ ?_ ?_ ?_ ?_
  · kernel_rfl
  · kernel_rfl
  · exact ⟨RG.zero (by simp [es26]), ST.start H.out⟩
  · refine ⟨?_, ?_, ?_, ?_, ?_, ?_, ?_, ?_, ?_, trivial⟩
    · intro L v0 v1 v2 v3 v4 v5 v6 v7 wx hL hd hR K' hK
      rw [if_pos (by rfl)]
      obtain ⟨hR, hS⟩ := hR
      have HR := Keep.mk hR
      have HS := Keep.mk hS
      have HK := Keep.mk hK
      clear hd hL hR hS hK
      go_simp
      exact HK.out _ _ _ _ _ _ _ _ _ ⟨HR.out.put 0 (.pointer (some ⟨B, 0, none⟩)) (by simp) (by simp [es26]), HS.out.skip 0 (by decide) (by decide)⟩
    · intro L v0 v1 v2 v3 v4 v5 v6 v7 wx hL hd hR K' hK
      rw [if_pos (by rfl)]
      have hd' : L 0 = true := by simpa [Region.binds] using hd
      obtain ⟨hR, hS⟩ := hR
      obtain rfl := hR.at 0 (e := (.pointer (some ⟨B, 0, none⟩))) rfl rfl hd'
      have HR := Keep.mk hR
      have HS := Keep.mk hS
      have HK := Keep.mk hK
      clear hd hL hR hS hK hd'
      go_simp
      exact HK.out _ _ _ _ _ _ _ _ _ ⟨HR.out.put 1 (.pointer (some ⟨B, 0, none⟩)) (by simp) (by simp [es26]), HS.out.skip 1 (by decide) (by decide)⟩
    · intro L v0 v1 v2 v3 v4 v5 v6 v7 wx hL hd hR K' hK
      rw [if_pos (by rfl)]
      have hd' : L 1 = true := by simpa [Region.binds] using hd
      obtain ⟨hR, hS⟩ := hR
      obtain rfl := hR.at 1 (e := (.pointer (some ⟨B, 0, none⟩))) rfl rfl hd'
      have HR := Keep.mk hR
      have HS := Keep.mk hS
      have HK := Keep.mk hK
      clear hd hL hR hS hK hd'
      go_simp
      exact HK.out _ _ _ _ _ _ _ _ _ ⟨HR.out.put 2 (.pointer (some ⟨B, 0, none⟩)) (by simp) (by simp [es26]), HS.out.skip 2 (by decide) (by decide)⟩
    · intro L v0 v1 v2 v3 v4 v5 v6 v7 wx hL hd hR K' hK
      rw [if_pos (by rfl)]
      have hd' : L 2 = true := by simpa [Region.binds] using hd
      obtain ⟨hR, hS⟩ := hR
      obtain rfl := hR.at 2 (e := (.pointer (some ⟨B, 0, none⟩))) rfl rfl hd'
      have hm0 := hS.m.mem0
      have hbl := hS.m.lt
      have HR := Keep.mk hR
      have HS := Keep.mk hS
      have HK := Keep.mk hK
      clear hd hL hR hS hK hd'
      go_simp
      exact HK.out _ _ _ _ _ _ _ _ _ ⟨HR.out.put 3 (.slice (some ⟨M, 0, none⟩) 262144 262144) (by simp) (by simp [es26]), HS.out.skip 3 (by decide) (by decide)⟩
    · intro L v0 v1 v2 v3 v4 v5 v6 v7 wx hL hd hR K' hK
      rw [if_pos (by rfl)]
      obtain ⟨hR, hS⟩ := hR
      have HR := Keep.mk hR
      have HS := Keep.mk hS
      have HK := Keep.mk hK
      clear hd hL hR hS hK
      go_simp
      exact HK.out _ _ _ _ _ _ _ _ _ ⟨HR.out.put 4 (.int .u32 (W32 a)) (by simp) (by simp [es26]), HS.out.skip 4 (by decide) (by decide)⟩
    · intro L v0 v1 v2 v3 v4 v5 v6 v7 wx hL hd hR K' hK
      rw [if_pos (by rfl)]
      obtain ⟨hR, hS⟩ := hR
      have HR := Keep.mk hR
      have HS := Keep.mk hS
      have HK := Keep.mk hK
      clear hd hL hR hS hK
      go_simp
      exact HK.out _ _ _ _ _ _ _ _ _ ⟨HR.out.put 5 (.pointer (some ⟨B, 0, none⟩)) (by simp) (by simp [es26]), HS.out.skip 5 (by decide) (by decide)⟩
    · intro L v0 v1 v2 v3 v4 v5 v6 v7 wx hL hd hR K' hK
      rw [if_pos (by rfl)]
      have hd' : L 5 = true := by simpa [Region.binds] using hd
      obtain ⟨hR, hS⟩ := hR
      obtain rfl := hR.at 5 (e := (.pointer (some ⟨B, 0, none⟩))) rfl rfl hd'
      have HR := Keep.mk hR
      have HS := Keep.mk hS
      have HK := Keep.mk hK
      clear hd hL hR hS hK hd'
      go_simp
      refine (HC.out wx HS.out.m).mono ?_
      rintro _ wy ⟨rfl, hm, hw⟩
      exact ⟨rfl, traps_is, hm, (HW.out.trans HS.out.mw).trans hw⟩
    · intro L v0 v1 v2 v3 v4 v5 v6 v7 wx hL hd hR K' hK
      rw [if_pos (by rfl)]
      exfalso
      have h6 : L 6 = true := by simp [Region.binds] at hd; simp [hd]
      rw [hR.2.no] at h6
      cases h6
    · intro L v0 v1 v2 v3 v4 v5 v6 v7 wx hL hd hR K' hK
      rw [if_pos (by rfl)]
      exfalso
      have h6 : L 6 = true := by simp [Region.binds] at hd; simp [hd]
      rw [hR.2.no] at h6
      cases h6
  · intro v0 v1 v2 v3 v4 v5 v6 v7 wx hR
    have := hR.2.no
    cases this
end Go.Proofs.YtojgopbaiflfgaaGreatDoor
