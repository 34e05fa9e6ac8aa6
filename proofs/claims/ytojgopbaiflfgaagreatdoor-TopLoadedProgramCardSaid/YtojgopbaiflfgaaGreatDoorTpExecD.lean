/- machine.execute at : and at the dot. No condition. -/
import Derived.Test.YtojgopbaiflfgaaGreatDoorTpExecReg
namespace Go.Proofs.YtojgopbaiflfgaaGreatDoor
set_option maxRecDepth 100000
open Go.RowKit Go.Shelf Go.Proofs.YtojgopbaiflfgaaGreatDoor.B2

def es34 (B : Nat) (pc : W) (ca : Option Addr) (cc n : Nat) : List (Option Value) := [some (.pointer (some ⟨B, 0, none⟩)), some (.pointer (some ⟨B, 0, none⟩)), some (.pointer (some ⟨B, 0, none⟩)), some (.pointer (some ⟨B, 3, none⟩)), some (.slice ca n cc), some (.pointer (some ⟨B, 0, none⟩)), some (.pointer (some ⟨B, 0, none⟩)), some (.pointer (some ⟨B, 1, none⟩)), some (.int .u32 (W32 pc)), none, none, some (.pointer (some ⟨B, 0, none⟩)), some (.pointer (some ⟨B, 3, none⟩))]
def es48 (B : Nat) (v : W) (oa : Option Addr) (oc n : Nat) : List (Option Value) := [some (.pointer (some ⟨B, 0, none⟩)), some (.pointer (some ⟨B, 0, none⟩)), some (.pointer (some ⟨B, 0, none⟩)), some (.pointer (some ⟨B, 5, none⟩)), some (.slice oa n oc), some (.pointer (some ⟨B, 0, none⟩)), some (.int .u32 (W32 v)), some (.int .u8 ((lowB v).toNat : Int)), none, none, some (.pointer (some ⟨B, 0, none⟩)), some (.pointer (some ⟨B, 5, none⟩))]
set_option maxHeartbeats 8000000 in
theorem ex58_any {w : World} {base B M G k : Nat} {s : St} (h : MIn w base B M G s k) (t : W) (d : List W) (hl : s.data = t :: d) (hc : s.calls.length < 64) : Calls Tryz.prog 49 #[.pointer (some ⟨B, 0, none⟩), .int .u32 58] w fun e w' => (∃ u, e = .returned u) ∧ MIn w' base B M G { s with pc := t, calls := s.pc :: s.calls, data := d } k ∧ Mw base w w' := by
  have HA := Keep.mk (pop_any h t d hl)
  clear h
  go_enter Tryz.func49, Tryz.ntmps49
  go_wp2_with fail
  refine HA.out.mono ?_
  rintro _ w2 ⟨rfl, h2⟩
  obtain ⟨dv, cv, iv, ov, h3⟩ := h2.1
  have H := Keep.mk h3
  have HW := Keep.mk h2.2
  obtain ⟨ca, cc, rfl⟩ := ownsRow_slice h3.calls
  have hBl := h3.lt
  have c3 : w2.cell? ⟨B, 3, none⟩ = some (.slice ca s.calls.length cc) := h3.cell 3
  have f1 : (s.calls.length : Int) < 64 := by omega
  clear h2 h3 HA hl
  go_wp2_with fail
  refine (check_ok _).mono ?_
  rintro _ w3 ⟨⟨u, rfl⟩, rfl⟩
  go_upto_region 34 with (fail)
  obtain ⟨i0, hi, hz0, hz1, hz2⟩ := info_parts Tryz.infoW
  refine wp_region_inv13 (P := Tryz.prog) (Fr := fun v0 v1 v2 v3 v4 v5 v6 v7 v8 v9 v10 v11 v12 => { tmps := #[.pointer (some ⟨B, 0, none⟩), .int .u32 58, undef, undef, undef, undef, undef, .int .u32 (W32 t), undef, undef, undef, undef, undef, undef, .int .u32 58, undef, undef, undef, undef, undef, undef, undef, undef, undef, undef, undef, undef, undef, undef, undef, undef, undef, undef, undef, undef, undef, .bool false, .bool false, .bool false, .bool false, .bool false, .bool false, .bool false, .bool false, .bool false, .bool false, .bool false, undef, undef, undef, undef, undef, undef, undef, undef, undef, undef, undef, undef, undef, undef, undef, undef, undef, undef, undef, undef, undef, undef, undef, undef, undef, undef, undef, undef, undef, undef, undef, .bool false, .bool false, .bool false, .bool false, .bool false, undef, undef, undef, undef, undef, undef, undef, undef, undef, undef, .bool false, .bool false, undef, undef, undef, undef, undef, undef, undef, undef, undef, undef, .bool false, .bool false, undef, undef, undef, undef, undef, undef, undef, undef, undef, .bool true, .bool true, .pointer (some ⟨B, 0, none⟩), .int .u32 (W32 t), .pointer (some ⟨B, 0, none⟩), .pointer (some ⟨B, 0, none⟩), Value.pointer (some { block := B, off := 3 }), Value.slice ca s.calls.length cc, .int .i64 s.calls.length, .bool true, u, v0, v1, v2, v3, v4, v5, v6, v7, v8, v9, v10, v11, v12, undef, undef, undef, undef, undef, undef, undef, undef, undef, undef, undef, undef, undef, undef, undef, undef, undef, undef, undef, undef, undef, undef, undef, undef, undef, undef, undef, undef, undef, undef, undef, undef, undef, undef, undef, undef, undef, undef, undef, undef, undef, undef, undef, undef, undef, undef, undef, undef, undef, undef, undef, undef, undef, undef, undef, undef, undef, undef, undef, undef, undef, undef, undef, undef, undef, undef, undef, undef, undef, undef, undef, undef, undef, undef, undef, undef, undef, undef, undef], defers := [] })
    undef undef undef undef undef undef undef undef undef undef undef undef undef (fun L v0 v1 v2 v3 v4 v5 v6 v7 v8 v9 v10 v11 v12 wx => RG (es34 B s.pc ca cc s.calls.length) L [v0, v1, v2, v3, v4, v5, v6, v7, v8, v9, v10, v11, v12] ∧ S34 w3 base B M G k { s with data := d } dv (.slice ca s.calls.length cc) iv ov (L 4) (L 8) (L 9) (L 10) (L 13) v9 v10 wx) ?_ ?_ ?_ ?_ ?_
  · kernel_rfl
  · kernel_rfl
  · exact ⟨RG.zero (by simp [es34]), S34.start H.out⟩
  · refine ⟨?_, ?_, ?_, ?_, ?_, ?_, ?_, ?_, ?_, ?_, ?_, ?_, ?_, ?_, trivial⟩
    · intro L v0 v1 v2 v3 v4 v5 v6 v7 v8 v9 v10 v11 v12 wx hL hd hR K' hK
      rw [if_pos (by rfl)]
      obtain ⟨hR, hS⟩ := hR
      have HR := Keep.mk hR
      have HS := Keep.mk hS
      have HK := Keep.mk hK
      have HL := Keep.mk hL
      clear hd hL hR hS hK
      go_simp
      exact HK.out _ _ _ _ _ _ _ _ _ _ _ _ _ _ ⟨HR.out.put 0 (.pointer (some ⟨B, 0, none⟩)) (by simp) (by simp [es34]), by simpa using HS.out⟩
    · intro L v0 v1 v2 v3 v4 v5 v6 v7 v8 v9 v10 v11 v12 wx hL hd hR K' hK
      rw [if_pos (by rfl)]
      obtain ⟨hR, hS⟩ := hR
      have HR := Keep.mk hR
      have HS := Keep.mk hS
      have HK := Keep.mk hK
      have HL := Keep.mk hL
      clear hd hL hR hS hK
      go_simp
      exact HK.out _ _ _ _ _ _ _ _ _ _ _ _ _ _ ⟨HR.out.put 1 (.pointer (some ⟨B, 0, none⟩)) (by simp) (by simp [es34]), by simpa using HS.out⟩
    · intro L v0 v1 v2 v3 v4 v5 v6 v7 v8 v9 v10 v11 v12 wx hL hd hR K' hK
      rw [if_pos (by rfl)]
      have hd' : L 1 = true := by simpa [Region.binds] using hd
      obtain ⟨hR, hS⟩ := hR
      obtain rfl := hR.at 1 (e := (.pointer (some ⟨B, 0, none⟩))) rfl rfl hd'
      have HR := Keep.mk hR
      have HS := Keep.mk hS
      have HK := Keep.mk hK
      have HL := Keep.mk hL
      clear hd hL hR hS hK hd'
      go_simp
      exact HK.out _ _ _ _ _ _ _ _ _ _ _ _ _ _ ⟨HR.out.put 2 (.pointer (some ⟨B, 0, none⟩)) (by simp) (by simp [es34]), by simpa using HS.out⟩
    · intro L v0 v1 v2 v3 v4 v5 v6 v7 v8 v9 v10 v11 v12 wx hL hd hR K' hK
      rw [if_pos (by rfl)]
      have hd' : L 2 = true := by simpa [Region.binds] using hd
      obtain ⟨hR, hS⟩ := hR
      obtain rfl := hR.at 2 (e := (.pointer (some ⟨B, 0, none⟩))) rfl rfl hd'
      have HR := Keep.mk hR
      have HS := Keep.mk hS
      have HK := Keep.mk hK
      have HL := Keep.mk hL
      clear hd hL hR hS hK hd'
      go_simp
      exact HK.out _ _ _ _ _ _ _ _ _ _ _ _ _ _ ⟨HR.out.put 3 (.pointer (some ⟨B, 3, none⟩)) (by simp) (by simp [es34]), by simpa using HS.out⟩
    · intro L v0 v1 v2 v3 v4 v5 v6 v7 v8 v9 v10 v11 v12 wx hL hd hR K' hK
      rw [if_pos (by rfl)]
      have hd' : L 3 = true := by simpa [Region.binds] using hd
      obtain ⟨hR, hS⟩ := hR
      obtain rfl := hR.at 3 (e := (.pointer (some ⟨B, 3, none⟩))) rfl rfl hd'
      have h10 : L 10 = false := by
        cases e : L 10 with
        | false => rfl
        | true => have := (hS.o10 e).2; rw [hL] at this; cases this
      have hm := hS.m0 h10
      have hc : wx.cell? ⟨B, 3, none⟩ = some (.slice ca s.calls.length cc) := hm.cell 3
      have hbl := hm.lt
      clear hm
      have HR := Keep.mk hR
      have HS := Keep.mk hS
      have HK := Keep.mk hK
      have HL := Keep.mk hL
      clear hd hL hR hS hK hd'
      go_simp
      exact HK.out _ _ _ _ _ _ _ _ _ _ _ _ _ _ ⟨HR.out.put 4 (.slice ca s.calls.length cc) (by simp) (by simp [es34]), HS.out.mw, by simpa using HS.out.o13, fun h => ⟨by simpa using (HS.out.o10 (by simpa using h)).1, by simp⟩, by simpa using HS.out.o9, by simpa using HS.out.m0, by simpa using HS.out.m9, by simpa using HS.out.m10, by simpa using HS.out.m13⟩
    · intro L v0 v1 v2 v3 v4 v5 v6 v7 v8 v9 v10 v11 v12 wx hL hd hR K' hK
      rw [if_pos (by rfl)]
      obtain ⟨hR, hS⟩ := hR
      have HR := Keep.mk hR
      have HS := Keep.mk hS
      have HK := Keep.mk hK
      have HL := Keep.mk hL
      clear hd hL hR hS hK
      go_simp
      exact HK.out _ _ _ _ _ _ _ _ _ _ _ _ _ _ ⟨HR.out.put 5 (.pointer (some ⟨B, 0, none⟩)) (by simp) (by simp [es34]), by simpa using HS.out⟩
    · intro L v0 v1 v2 v3 v4 v5 v6 v7 v8 v9 v10 v11 v12 wx hL hd hR K' hK
      rw [if_pos (by rfl)]
      have hd' : L 5 = true := by simpa [Region.binds] using hd
      obtain ⟨hR, hS⟩ := hR
      obtain rfl := hR.at 5 (e := (.pointer (some ⟨B, 0, none⟩))) rfl rfl hd'
      have HR := Keep.mk hR
      have HS := Keep.mk hS
      have HK := Keep.mk hK
      have HL := Keep.mk hL
      clear hd hL hR hS hK hd'
      go_simp
      exact HK.out _ _ _ _ _ _ _ _ _ _ _ _ _ _ ⟨HR.out.put 6 (.pointer (some ⟨B, 0, none⟩)) (by simp) (by simp [es34]), by simpa using HS.out⟩
    · intro L v0 v1 v2 v3 v4 v5 v6 v7 v8 v9 v10 v11 v12 wx hL hd hR K' hK
      rw [if_pos (by rfl)]
      have hd' : L 6 = true := by simpa [Region.binds] using hd
      obtain ⟨hR, hS⟩ := hR
      obtain rfl := hR.at 6 (e := (.pointer (some ⟨B, 0, none⟩))) rfl rfl hd'
      have HR := Keep.mk hR
      have HS := Keep.mk hS
      have HK := Keep.mk hK
      have HL := Keep.mk hL
      clear hd hL hR hS hK hd'
      go_simp
      exact HK.out _ _ _ _ _ _ _ _ _ _ _ _ _ _ ⟨HR.out.put 7 (.pointer (some ⟨B, 1, none⟩)) (by simp) (by simp [es34]), by simpa using HS.out⟩
    · intro L v0 v1 v2 v3 v4 v5 v6 v7 v8 v9 v10 v11 v12 wx hL hd hR K' hK
      rw [if_pos (by rfl)]
      have hd' : L 7 = true := by simpa [Region.binds] using hd
      obtain ⟨hR, hS⟩ := hR
      obtain rfl := hR.at 7 (e := (.pointer (some ⟨B, 1, none⟩))) rfl rfl hd'
      have h10 : L 10 = false := by
        cases e : L 10 with
        | false => rfl
        | true => have := hS.o9 (hS.o10 e).1; rw [hL] at this; cases this
      have hm := hS.m0 h10
      have hc : wx.cell? ⟨B, 1, none⟩ = some (.int .u32 (W32 s.pc)) := hm.cell 1
      have hbl := hm.lt
      clear hm
      have HR := Keep.mk hR
      have HS := Keep.mk hS
      have HK := Keep.mk hK
      have HL := Keep.mk hL
      clear hd hL hR hS hK hd'
      go_simp
      exact HK.out _ _ _ _ _ _ _ _ _ _ _ _ _ _ ⟨HR.out.put 8 (.int .u32 (W32 s.pc)) (by simp) (by simp [es34]), HS.out.mw, by simpa using HS.out.o13, by simpa using HS.out.o10, fun _ => by simp, by simpa using HS.out.m0, by simpa using HS.out.m9, by simpa using HS.out.m10, by simpa using HS.out.m13⟩
    · intro L v0 v1 v2 v3 v4 v5 v6 v7 v8 v9 v10 v11 v12 wx hL hd hR K' hK
      rw [if_pos (by rfl)]
      have hd' : L 8 = true := by simpa [Region.binds] using hd
      obtain ⟨hR, hS⟩ := hR
      obtain rfl := hR.at 8 (e := (.int .u32 (W32 s.pc))) rfl rfl hd'
      have h10 : L 10 = false := by
        cases e : L 10 with
        | false => rfl
        | true => have := (hS.o10 e).1; rw [hL] at this; cases this
      have H10 := Keep.mk h10
      have HD := Keep.mk hd'
      clear h10
      have HR := Keep.mk hR
      have HS := Keep.mk hS
      have HK := Keep.mk hK
      have HL := Keep.mk hL
      clear hd hL hR hS hK hd'
      go_simp
      have hba : Below wx.heap.size wx (wx.alloc (.cells #[.int .u32 (W32 s.pc)] 29)) := (Below.refl _ _).alloc (Nat.le_refl _) _
      refine HK.out _ _ _ _ _ _ _ _ _ _ _ _ _ _ ⟨HR.out.put 9 (.slice (some ⟨wx.heap.size, 0, none⟩) 1 1) (by simp) (by simp [es34]), HS.out.mw.trans (Mw.of_below hba), by simpa using HS.out.o13, fun h => ?_, fun _ => by simp [HD.out], fun _ => (HS.out.m0 H10.out).below hba, fun _ _ => ⟨_, rfl, by simp, cell_new⟩, fun h => ?_, fun h => ?_⟩
      · have h' : L 10 = true := by simpa using h
        rw [H10.out] at h'; cases h'
      · have h' : L 10 = true := by simpa using h
        rw [H10.out] at h'; cases h'
      · have h' : L 13 = true := by simpa using h
        have h'' := HS.out.o13 h'
        rw [H10.out] at h''; cases h''
    · intro L v0 v1 v2 v3 v4 v5 v6 v7 v8 v9 v10 v11 v12 wx hL hd hR K' hK
      rw [if_pos (by rfl)]
      have hd' : L 4 = true ∧ L 9 = true := by simpa [Region.binds] using hd
      obtain ⟨hR, hS⟩ := hR
      obtain rfl := hR.at 4 (e := (.slice ca s.calls.length cc)) rfl rfl hd'.1
      obtain ⟨X, rfl, hX1, hX2⟩ := hS.m9 hd'.2 hL
      have hm := hS.m0 hL
      have hbw : base ≤ wx.heap.size := by have := hm.bB; have := hm.lt; omega
      have HD := Keep.mk hd'
      have HR := Keep.mk hR
      have HS := Keep.mk hS
      have HK := Keep.mk hK
      have HL := Keep.mk hL
      clear hd hL hR hS hK hd'
      refine wp_append_slc2 (.tmp 131) (.tmp 136) 44 rfl base 29 i0 (.int .u32 0) 1 4 Tryz.underlying44 hi hz0 hz1 hz2 rfl (by decide) _ s.calls.length (wvs s.calls.reverse) rfl hm.calls _ 1 [.int .u32 (W32 s.pc)] rfl (slc_one hX1 hX2) (by simp [Value.oneCell']) (by unfold maxLen; omega) (by omega) hbw ?_
      intro v9 w9 hown9 hg9 hv9
      obtain ⟨a9, c9, rfl⟩ := ownsRow_slice hown9
      have H9 := hm.called s.pc hc hown9 hg9 hv9
      refine HK.out _ _ _ _ _ _ _ _ _ _ _ _ _ _ ⟨HR.out.put 10 (.slice a9 (s.calls.length + 1) c9) (by simp) (by simp [es34]), HS.out.mw.trans (hm.rest hm.calls (.inl rfl) hm.cM hg9).2.2.2.2, by simp, fun _ => ⟨by simp [HD.out.2], by simp [HD.out.1]⟩, fun h => by simp [HS.out.o9 HD.out.2], fun h => by simp at h, fun _ h => by simp at h, fun _ _ => ⟨_, _, _, rfl, H9.1, H9.2.1, HS.out.mw.trans H9.2.2⟩, fun h => ?_⟩
      have h' : L 13 = true := by simpa using h
      have h'' := HS.out.o13 h'
      rw [HL.out] at h''; cases h''
    · intro L v0 v1 v2 v3 v4 v5 v6 v7 v8 v9 v10 v11 v12 wx hL hd hR K' hK
      rw [if_pos (by rfl)]
      have hd' : L 0 = true ∧ L 0 = true ∧ L 1 = true ∧ L 2 = true ∧ L 3 = true ∧ L 4 = true ∧ L 5 = true ∧ L 6 = true ∧ L 7 = true ∧ L 8 = true ∧ L 9 = true ∧ L 10 = true := by simpa [Region.binds] using hd
      obtain ⟨hR, hS⟩ := hR
      obtain rfl := hR.at 0 (e := (.pointer (some ⟨B, 0, none⟩))) rfl rfl hd'.1
      have HR := Keep.mk hR
      have HS := Keep.mk hS
      have HK := Keep.mk hK
      have HL := Keep.mk hL
      clear hd hL hR hS hK hd'
      go_simp
      exact HK.out _ _ _ _ _ _ _ _ _ _ _ _ _ _ ⟨HR.out.put 11 (.pointer (some ⟨B, 0, none⟩)) (by simp) (by simp [es34]), by simpa using HS.out⟩
    · intro L v0 v1 v2 v3 v4 v5 v6 v7 v8 v9 v10 v11 v12 wx hL hd hR K' hK
      rw [if_pos (by rfl)]
      have hd' : L 11 = true ∧ L 0 = true ∧ L 1 = true ∧ L 2 = true ∧ L 3 = true ∧ L 4 = true ∧ L 5 = true ∧ L 6 = true ∧ L 7 = true ∧ L 8 = true ∧ L 9 = true ∧ L 10 = true := by simpa [Region.binds] using hd
      obtain ⟨hR, hS⟩ := hR
      obtain rfl := hR.at 11 (e := (.pointer (some ⟨B, 0, none⟩))) rfl rfl hd'.1
      have HR := Keep.mk hR
      have HS := Keep.mk hS
      have HK := Keep.mk hK
      have HL := Keep.mk hL
      clear hd hL hR hS hK hd'
      go_simp
      exact HK.out _ _ _ _ _ _ _ _ _ _ _ _ _ _ ⟨HR.out.put 12 (.pointer (some ⟨B, 3, none⟩)) (by simp) (by simp [es34]), by simpa using HS.out⟩
    · intro L v0 v1 v2 v3 v4 v5 v6 v7 v8 v9 v10 v11 v12 wx hL hd hR K' hK
      rw [if_pos (by rfl)]
      have hd' : L 12 = true ∧ L 10 = true ∧ L 10 = true ∧ L 0 = true ∧ L 1 = true ∧ L 2 = true ∧ L 3 = true ∧ L 4 = true ∧ L 5 = true ∧ L 6 = true ∧ L 7 = true ∧ L 8 = true ∧ L 9 = true ∧ L 10 = true := by simpa [Region.binds] using hd
      obtain ⟨hR, hS⟩ := hR
      obtain rfl := hR.at 12 (e := (.pointer (some ⟨B, 3, none⟩))) rfl rfl hd'.1
      obtain ⟨a9, n9, c9, rfl, hb, hm, hw⟩ := hS.m10 hd'.2.1 hL
      have hc : wx.cell? ⟨B, 3, none⟩ = some (.slice ca s.calls.length cc) := by simp [World.cell?, hb, boxC]
      have hf : wx.frozen? ⟨B, 3, none⟩ = false := by simp [World.frozen?, hb]
      have hbl : B < wx.heap.size := (Array.getElem?_eq_some_iff.1 hb).1
      have HM := Keep.mk hm
      have HWW := Keep.mk hw
      have HD := Keep.mk hd'.2.1
      clear hb hm hw
      have HR := Keep.mk hR
      have HS := Keep.mk hS
      have HK := Keep.mk hK
      have HL := Keep.mk hL
      clear hd hL hR hS hK hd'
      go_simp
      exact HK.out _ _ _ _ _ _ _ _ _ _ _ _ _ _ ⟨HR.out.keep 13 (by simp [es34]), HWW.out, fun _ => by simp [HD.out], fun h => by have := HS.out.o10 HD.out; simp [this.1, this.2], fun h => by have := HS.out.o9 (HS.out.o10 HD.out).1; simp [this], fun h => by simp [HD.out] at h, fun _ h => by simp [HD.out] at h, fun _ h => by simp at h, fun _ => ⟨_, _, _, _, HM.out⟩⟩
  · intro v0 v1 v2 v3 v4 v5 v6 v7 v8 v9 v10 v11 v12 wx hR
    have hF := hR.2.m13 rfl
    have hM := HW.out.trans hR.2.mw
    obtain ⟨dv2, cv2, iv2, ov2, hF⟩ := hF
    have HF := Keep.mk (hF.setB (s' := { s with pc := t, calls := s.pc :: s.calls, data := d }) (k' := k) (dv' := dv2) (cv' := cv2) (iv' := iv2) (ov' := ov2) 1 (.int .u32 (W32 t)) rfl rfl hF.data hF.calls hF.inp hF.inpb hF.out hF.dM hF.cM hF.dc hF.d256 hF.c64 hF.o20)
    have HM2 := Keep.mk (hM.trans (hF.mw 1 (.int .u32 (W32 t))))
    have g1 : wx.cell? ⟨B, 1, none⟩ = some (.int .u32 (W32 s.pc)) := hF.cell 1
    have g2 : wx.frozen? ⟨B, 1, none⟩ = false := hF.frozen 1
    have g3 := hF.lt
    clear hR hF hM hi hz0 hz1 hz2
    go_wp2_with fail
    go_end0
    exact ⟨⟨_, rfl⟩, ⟨_, _, _, _, HF.out⟩, HM2.out⟩
set_option maxHeartbeats 8000000 in
theorem ex46_any {w : World} {base B M G k : Nat} {s : St} (h : MIn w base B M G s k) (v : W) (d : List W) (hl : s.data = v :: d) (ho : s.out.length < 100000000) : Calls Tryz.prog 49 #[.pointer (some ⟨B, 0, none⟩), .int .u32 46] w fun e w' => (∃ u, e = .returned u) ∧ MIn w' base B M G { s with out := s.out ++ [lowB v], data := d } k ∧ Mw base w w' := by
  obtain ⟨dv, cv, iv, ov, h⟩ := h
  obtain ⟨oa, oc, rfl⟩ := ownsRow_slice h.out
  obtain ⟨i0, hi, hz0, hz1, hz2⟩ := info_parts Tryz.infoB
  have H := Keep.mk h
  have hBl := h.lt
  clear h
  go_enter Tryz.func49, Tryz.ntmps49
  go_upto_region 48 with (fail)
  refine wp_region_inv12 (P := Tryz.prog) (Fr := fun v0 v1 v2 v3 v4 v5 v6 v7 v8 v9 v10 v11 => { tmps := #[.pointer (some ⟨B, 0, none⟩), .int .u32 46, undef, undef, undef, undef, undef, undef, undef, undef, undef, undef, undef, undef, .int .u32 46, undef, undef, undef, undef, undef, undef, undef, undef, undef, undef, undef, undef, undef, undef, undef, undef, undef, undef, undef, undef, undef, .bool false, .bool false, .bool false, .bool false, .bool false, .bool false, .bool false, .bool false, .bool false, .bool false, .bool false, undef, undef, undef, undef, undef, undef, undef, undef, undef, undef, undef, undef, undef, undef, undef, undef, undef, undef, undef, undef, undef, undef, undef, undef, undef, undef, undef, undef, undef, undef, undef, .bool false, .bool false, .bool false, .bool false, .bool false, undef, undef, undef, undef, undef, undef, undef, undef, undef, undef, .bool false, .bool false, undef, undef, undef, undef, undef, undef, undef, undef, undef, undef, .bool false, .bool false, undef, undef, undef, undef, undef, undef, undef, undef, undef, .bool false, .bool false, undef, undef, undef, undef, undef, undef, undef, undef, undef, undef, undef, undef, undef, undef, undef, undef, undef, undef, undef, undef, undef, undef, undef, undef, undef, undef, .bool false, .bool false, undef, undef, undef, undef, undef, undef, undef, undef, undef, undef, undef, undef, undef, undef, undef, undef, undef, undef, undef, undef, undef, undef, undef, undef, undef, undef, undef, undef, undef, .bool false, .bool false, undef, undef, undef, undef, undef, undef, undef, undef, undef, undef, undef, undef, undef, undef, undef, undef, undef, undef, undef, undef, undef, undef, undef, .bool true, .bool true, v0, v1, v2, v3, v4, v5, v6, v7, v8, v9, v10, v11, undef, undef, undef, undef, undef], defers := [] })
    undef undef undef undef undef undef undef undef undef undef undef undef (fun L v0 v1 v2 v3 v4 v5 v6 v7 v8 v9 v10 v11 wx => RG (es48 B v oa oc s.out.length) L [v0, v1, v2, v3, v4, v5, v6, v7, v8, v9, v10, v11] ∧ S48 w base B M G k s (lowB v) d dv cv iv (.slice oa s.out.length oc) (L 4) (L 6) (L 7) (L 8) (L 9) (L 12) v8 v9 wx) ?_ ?_ ?_ ?_ ?_
  · kernel_rfl
  · kernel_rfl
  · exact ⟨RG.zero (by simp [es48]), S48.start H.out⟩
  · refine ⟨?_, ?_, ?_, ?_, ?_, ?_, ?_, ?_, ?_, ?_, ?_, ?_, ?_, trivial⟩
    · intro L v0 v1 v2 v3 v4 v5 v6 v7 v8 v9 v10 v11 wx hL hd hR K' hK
      rw [if_pos (by rfl)]
      obtain ⟨hR, hS⟩ := hR
      have HR := Keep.mk hR
      have HS := Keep.mk hS
      have HK := Keep.mk hK
      have HL := Keep.mk hL
      clear hd hL hR hS hK
      go_simp
      exact HK.out _ _ _ _ _ _ _ _ _ _ _ _ _ ⟨HR.out.put 0 (.pointer (some ⟨B, 0, none⟩)) (by simp) (by simp [es48]), by simpa using HS.out⟩
    · intro L v0 v1 v2 v3 v4 v5 v6 v7 v8 v9 v10 v11 wx hL hd hR K' hK
      rw [if_pos (by rfl)]
      obtain ⟨hR, hS⟩ := hR
      have HR := Keep.mk hR
      have HS := Keep.mk hS
      have HK := Keep.mk hK
      have HL := Keep.mk hL
      clear hd hL hR hS hK
      go_simp
      exact HK.out _ _ _ _ _ _ _ _ _ _ _ _ _ ⟨HR.out.put 1 (.pointer (some ⟨B, 0, none⟩)) (by simp) (by simp [es48]), by simpa using HS.out⟩
    · intro L v0 v1 v2 v3 v4 v5 v6 v7 v8 v9 v10 v11 wx hL hd hR K' hK
      rw [if_pos (by rfl)]
      have hd' : L 1 = true := by simpa [Region.binds] using hd
      obtain ⟨hR, hS⟩ := hR
      obtain rfl := hR.at 1 (e := (.pointer (some ⟨B, 0, none⟩))) rfl rfl hd'
      have HR := Keep.mk hR
      have HS := Keep.mk hS
      have HK := Keep.mk hK
      have HL := Keep.mk hL
      clear hd hL hR hS hK hd'
      go_simp
      exact HK.out _ _ _ _ _ _ _ _ _ _ _ _ _ ⟨HR.out.put 2 (.pointer (some ⟨B, 0, none⟩)) (by simp) (by simp [es48]), by simpa using HS.out⟩
    · intro L v0 v1 v2 v3 v4 v5 v6 v7 v8 v9 v10 v11 wx hL hd hR K' hK
      rw [if_pos (by rfl)]
      have hd' : L 2 = true := by simpa [Region.binds] using hd
      obtain ⟨hR, hS⟩ := hR
      obtain rfl := hR.at 2 (e := (.pointer (some ⟨B, 0, none⟩))) rfl rfl hd'
      have HR := Keep.mk hR
      have HS := Keep.mk hS
      have HK := Keep.mk hK
      have HL := Keep.mk hL
      clear hd hL hR hS hK hd'
      go_simp
      exact HK.out _ _ _ _ _ _ _ _ _ _ _ _ _ ⟨HR.out.put 3 (.pointer (some ⟨B, 5, none⟩)) (by simp) (by simp [es48]), by simpa using HS.out⟩
    · intro L v0 v1 v2 v3 v4 v5 v6 v7 v8 v9 v10 v11 wx hL hd hR K' hK
      rw [if_pos (by rfl)]
      have hd' : L 3 = true := by simpa [Region.binds] using hd
      obtain ⟨hR, hS⟩ := hR
      obtain rfl := hR.at 3 (e := (.pointer (some ⟨B, 5, none⟩))) rfl rfl hd'
      obtain ⟨hc, hbl⟩ := hS.five hL
      have HR := Keep.mk hR
      have HS := Keep.mk hS
      have HK := Keep.mk hK
      have HL := Keep.mk hL
      clear hd hL hR hS hK hd'
      go_simp
      exact HK.out _ _ _ _ _ _ _ _ _ _ _ _ _ ⟨HR.out.put 4 (.slice oa s.out.length oc) (by simp) (by simp [es48]), HS.out.mw, by simpa using HS.out.o12, fun h => ⟨by simpa using (HS.out.o9 (by simpa using h)).1, by simp⟩, by simpa using HS.out.o8, by simpa using HS.out.o7, by simpa using HS.out.m0, by simpa using HS.out.m6, by simpa using HS.out.m8, by simpa using HS.out.m9, by simpa using HS.out.m12⟩
    · intro L v0 v1 v2 v3 v4 v5 v6 v7 v8 v9 v10 v11 wx hL hd hR K' hK
      rw [if_pos (by rfl)]
      obtain ⟨hR, hS⟩ := hR
      have HR := Keep.mk hR
      have HS := Keep.mk hS
      have HK := Keep.mk hK
      have HL := Keep.mk hL
      clear hd hL hR hS hK
      go_simp
      exact HK.out _ _ _ _ _ _ _ _ _ _ _ _ _ ⟨HR.out.put 5 (.pointer (some ⟨B, 0, none⟩)) (by simp) (by simp [es48]), by simpa using HS.out⟩
    · intro L v0 v1 v2 v3 v4 v5 v6 v7 v8 v9 v10 v11 wx hL hd hR K' hK
      rw [if_pos (by rfl)]
      have hd' : L 5 = true := by simpa [Region.binds] using hd
      obtain ⟨hR, hS⟩ := hR
      obtain rfl := hR.at 5 (e := (.pointer (some ⟨B, 0, none⟩))) rfl rfl hd'
      have hm := hS.m0 hL
      have HM := Keep.mk hm
      clear hm
      have HR := Keep.mk hR
      have HS := Keep.mk hS
      have HK := Keep.mk hK
      have HL := Keep.mk hL
      clear hd hL hR hS hK hd'
      go_simp
      refine (pop_at HM.out v d hl).mono ?_
      rintro _ wy ⟨rfl, hm, hw⟩
      have h7 : L 7 = false := by
        cases e : L 7 with
        | false => rfl
        | true => have := HS.out.o7 e; rw [HL.out] at this; cases this
      have h8 : L 8 = false := by
        cases e : L 8 with
        | false => rfl
        | true => have := HS.out.o8 e; rw [h7] at this; cases this
      have h9 : L 9 = false := by
        cases e : L 9 with
        | false => rfl
        | true => have := (HS.out.o9 e).1; rw [h8] at this; cases this
      have h12 : L 12 = false := by
        cases e : L 12 with
        | false => rfl
        | true => have := HS.out.o12 e; rw [h9] at this; cases this
      exact HK.out _ _ _ _ _ _ _ _ _ _ _ _ _ ⟨HR.out.put 6 (.int .u32 (W32 v)) (by simp) (by simp [es48]), HS.out.mw.trans hw, by simp [h12], by simp [h9], by simp [h8], by simp, fun h => by simp at h, fun _ _ => hm, by simp [h8], by simp [h9], by simp [h12]⟩
    · intro L v0 v1 v2 v3 v4 v5 v6 v7 v8 v9 v10 v11 wx hL hd hR K' hK
      rw [if_pos (by rfl)]
      have hd' : L 6 = true := by simpa [Region.binds] using hd
      obtain ⟨hR, hS⟩ := hR
      obtain rfl := hR.at 6 (e := (.int .u32 (W32 v))) rfl rfl hd'
      have hlow := low_wrap v
      have HD := Keep.mk hd'
      have HR := Keep.mk hR
      have HS := Keep.mk hS
      have HK := Keep.mk hK
      have HL := Keep.mk hL
      clear hd hL hR hS hK hd'
      go_simp
      exact HK.out _ _ _ _ _ _ _ _ _ _ _ _ _ ⟨HR.out.put 7 (.int .u8 ((lowB v).toNat : Int)) (by simp) (by simp [es48]), HS.out.mw, by simpa using HS.out.o12, by simpa using HS.out.o9, fun _ => by simp, fun _ => by simp [HD.out], by simpa using HS.out.m0, by simpa using HS.out.m6, by simpa using HS.out.m8, by simpa using HS.out.m9, by simpa using HS.out.m12⟩
    · intro L v0 v1 v2 v3 v4 v5 v6 v7 v8 v9 v10 v11 wx hL hd hR K' hK
      rw [if_pos (by rfl)]
      have hd' : L 7 = true := by simpa [Region.binds] using hd
      obtain ⟨hR, hS⟩ := hR
      obtain rfl := hR.at 7 (e := (.int .u8 ((lowB v).toNat : Int))) rfl rfl hd'
      have h6 := hS.o7 hd'
      have H6 := Keep.mk h6
      have HD := Keep.mk hd'
      clear h6
      have HR := Keep.mk hR
      have HS := Keep.mk hS
      have HK := Keep.mk hK
      have HL := Keep.mk hL
      clear hd hL hR hS hK hd'
      go_simp
      have hba : Below wx.heap.size wx (wx.alloc (.cells #[.int .u8 ((lowB v).toNat : Int)] 5)) := (Below.refl _ _).alloc (Nat.le_refl _) _
      have h9 : L 9 = false := by
        cases e : L 9 with
        | false => rfl
        | true => have := (HS.out.o9 e).1; rw [HL.out] at this; cases this
      have h12 : L 12 = false := by
        cases e : L 12 with
        | false => rfl
        | true => have := HS.out.o12 e; rw [h9] at this; cases this
      obtain ⟨dv', hm⟩ := HS.out.m6 H6.out h9
      exact HK.out _ _ _ _ _ _ _ _ _ _ _ _ _ ⟨HR.out.put 8 (.slice (some ⟨wx.heap.size, 0, none⟩) 1 1) (by simp) (by simp [es48]), HS.out.mw.trans (Mw.of_below hba), by simp [h12], by simp [h9], fun _ => by simp [HD.out], fun _ => by simp [H6.out], fun h => by simp [H6.out] at h, fun _ _ => ⟨dv', hm.below hba⟩, fun _ _ => ⟨_, rfl, by simp, cell_new⟩, by simp [h9], by simp [h12]⟩
    · intro L v0 v1 v2 v3 v4 v5 v6 v7 v8 v9 v10 v11 wx hL hd hR K' hK
      rw [if_pos (by rfl)]
      have hd' : L 4 = true ∧ L 8 = true ∧ L 6 = true := by simpa [Region.binds] using hd
      obtain ⟨hR, hS⟩ := hR
      obtain rfl := hR.at 4 (e := (.slice oa s.out.length oc)) rfl rfl hd'.1
      obtain ⟨X, rfl, hX1, hX2⟩ := hS.m8 hd'.2.1 hL
      obtain ⟨dv', hm⟩ := hS.m6 hd'.2.2 hL
      have hbw : base ≤ wx.heap.size := by have := hm.bB; have := hm.lt; omega
      have HD := Keep.mk hd'
      have HR := Keep.mk hR
      have HS := Keep.mk hS
      have HK := Keep.mk hK
      have HL := Keep.mk hL
      clear hd hL hR hS hK hd'
      refine wp_append_slc2 (.tmp 206) (.tmp 210) 23 rfl base 5 i0 (.int .u8 0) 1 1 Tryz.underlying23 hi hz0 hz1 hz2 rfl (by decide) _ s.out.length (byteV s.out) rfl hm.out _ 1 [.int .u8 ((lowB v).toNat : Int)] rfl (slc_one hX1 hX2) (by simp [Value.oneCell']) (by unfold maxLen; omega) (by omega) hbw ?_
      intro v9 w9 hown9 hg9 hv9
      obtain ⟨a9, c9, rfl⟩ := ownsRow_slice hown9
      have H9 := hm.wrote (lowB v) ho hown9 hg9
      have h12 : L 12 = false := by
        cases e : L 12 with
        | false => rfl
        | true => have := HS.out.o12 e; rw [HL.out] at this; cases this
      have hM : (Value.slice oa s.out.length oc).ownBlock ≠ some M := fun e => by
        obtain ⟨c2, h2, _⟩ := row_block hm.out e
        obtain ⟨c1, h1, _⟩ := hm.mem
        rw [h1] at h2
        simp at h2
      exact HK.out _ _ _ _ _ _ _ _ _ _ _ _ _ ⟨HR.out.put 9 (.slice a9 (s.out.length + 1) c9) (by simp) (by simp [es48]), HS.out.mw.trans (hm.rest hm.out (.inr rfl) hM hg9).2.2.2.2, by simp [h12], fun _ => ⟨by simp [HD.out.2.1], by simp [HD.out.1]⟩, fun _ => by simp [HS.out.o8 HD.out.2.1], fun _ => by simp [HD.out.2.2], fun h => by simp [HD.out.2.2] at h, fun _ h => by simp at h, fun _ h => by simp at h, fun _ _ => ⟨dv', _, _, _, rfl, H9.1, H9.2.1, HS.out.mw.trans H9.2.2⟩, by simp [h12]⟩
    · intro L v0 v1 v2 v3 v4 v5 v6 v7 v8 v9 v10 v11 wx hL hd hR K' hK
      rw [if_pos (by rfl)]
      have hd' : L 0 = true ∧ L 0 = true ∧ L 1 = true ∧ L 2 = true ∧ L 3 = true ∧ L 4 = true ∧ L 5 = true ∧ L 6 = true ∧ L 7 = true ∧ L 8 = true ∧ L 9 = true := by simpa [Region.binds] using hd
      obtain ⟨hR, hS⟩ := hR
      obtain rfl := hR.at 0 (e := (.pointer (some ⟨B, 0, none⟩))) rfl rfl hd'.1
      have HR := Keep.mk hR
      have HS := Keep.mk hS
      have HK := Keep.mk hK
      have HL := Keep.mk hL
      clear hd hL hR hS hK hd'
      go_simp
      exact HK.out _ _ _ _ _ _ _ _ _ _ _ _ _ ⟨HR.out.put 10 (.pointer (some ⟨B, 0, none⟩)) (by simp) (by simp [es48]), by simpa using HS.out⟩
    · intro L v0 v1 v2 v3 v4 v5 v6 v7 v8 v9 v10 v11 wx hL hd hR K' hK
      rw [if_pos (by rfl)]
      have hd' : L 10 = true ∧ L 0 = true ∧ L 1 = true ∧ L 2 = true ∧ L 3 = true ∧ L 4 = true ∧ L 5 = true ∧ L 6 = true ∧ L 7 = true ∧ L 8 = true ∧ L 9 = true := by simpa [Region.binds] using hd
      obtain ⟨hR, hS⟩ := hR
      obtain rfl := hR.at 10 (e := (.pointer (some ⟨B, 0, none⟩))) rfl rfl hd'.1
      have HR := Keep.mk hR
      have HS := Keep.mk hS
      have HK := Keep.mk hK
      have HL := Keep.mk hL
      clear hd hL hR hS hK hd'
      go_simp
      exact HK.out _ _ _ _ _ _ _ _ _ _ _ _ _ ⟨HR.out.put 11 (.pointer (some ⟨B, 5, none⟩)) (by simp) (by simp [es48]), by simpa using HS.out⟩
    · intro L v0 v1 v2 v3 v4 v5 v6 v7 v8 v9 v10 v11 wx hL hd hR K' hK
      rw [if_pos (by rfl)]
      have hd' : L 11 = true ∧ L 9 = true ∧ L 9 = true ∧ L 0 = true ∧ L 1 = true ∧ L 2 = true ∧ L 3 = true ∧ L 4 = true ∧ L 5 = true ∧ L 6 = true ∧ L 7 = true ∧ L 8 = true ∧ L 9 = true := by simpa [Region.binds] using hd
      obtain ⟨hR, hS⟩ := hR
      obtain rfl := hR.at 11 (e := (.pointer (some ⟨B, 5, none⟩))) rfl rfl hd'.1
      obtain ⟨dv', a9, n9, c9, rfl, hb, hm, hw⟩ := hS.m9 hd'.2.1 hL
      have hc : wx.cell? ⟨B, 5, none⟩ = some (.slice oa s.out.length oc) := by simp [World.cell?, hb, boxC]
      have hf : wx.frozen? ⟨B, 5, none⟩ = false := by simp [World.frozen?, hb]
      have hbl : B < wx.heap.size := (Array.getElem?_eq_some_iff.1 hb).1
      have HM := Keep.mk hm
      have HWW := Keep.mk hw
      have HD := Keep.mk hd'.2.1
      clear hb hm hw
      have HR := Keep.mk hR
      have HS := Keep.mk hS
      have HK := Keep.mk hK
      have HL := Keep.mk hL
      clear hd hL hR hS hK hd'
      go_simp
      exact HK.out _ _ _ _ _ _ _ _ _ _ _ _ _ ⟨HR.out.keep 12 (by simp [es48]), HWW.out, fun _ => by simp [HD.out], fun _ => by have := HS.out.o9 HD.out; simp [this.1, this.2], fun _ => by have := HS.out.o8 (HS.out.o9 HD.out).1; simp [this], fun _ => by have := HS.out.o7 (HS.out.o8 (HS.out.o9 HD.out).1); simp [this], fun h => by have := HS.out.o7 (HS.out.o8 (HS.out.o9 HD.out).1); simp [this] at h, fun _ h => by simp [HD.out] at h, fun _ h => by simp [HD.out] at h, fun _ h => by simp at h, fun _ => ⟨_, _, _, _, HM.out⟩⟩
  · intro v0 v1 v2 v3 v4 v5 v6 v7 v8 v9 v10 v11 wx hR
    have hF := hR.2.m12 rfl
    have hM := hR.2.mw
    clear hR
    go_end0
    exact ⟨⟨_, rfl⟩, hF, hM⟩
end Go.Proofs.YtojgopbaiflfgaaGreatDoor
