/- machine.execute at @. No condition. -/
import Derived.Test.YtojgopbaiflfgaaGreatDoorTpExecReg
namespace Go.Proofs.YtojgopbaiflfgaaGreatDoor
set_option maxRecDepth 100000
open Go.RowKit Go.Shelf Go.Proofs.YtojgopbaiflfgaaGreatDoor.B2

def es23 (B M : Nat) (a x : W) : List (Option Value) := [some (.pointer (some ⟨B, 0, none⟩)), some (.pointer (some ⟨B, 0, none⟩)), some (.pointer (some ⟨B, 0, none⟩)), some (.pointer (some ⟨B, 0, none⟩)), some (.slice (some ⟨M, 0, none⟩) 262144 262144), some (.pointer (some ⟨B, 0, none⟩)), some (.int .u32 (W32 a)), some (.pointer (some ⟨M, a.toNat, none⟩)), some (.int .u32 (W32 x)), none]
theorem S23.skip {w : World} {base B M G k : Nat} {s : St} {a : W} {d : List W} {L : Nat → Bool} {wx : World} (h : S23 w base B M G k s a d (L 6) (L 9) wx) (i : Nat) (h6 : (6 == i) = false) (h9 : (9 == i) = false) : S23 w base B M G k s a d ((fun j => L j || j == i) 6) ((fun j => L j || j == i) 9) wx := by
  simpa [h6, h9] using h
theorem S23.start {w : World} {base B M G k : Nat} {s : St} {a : W} {d : List W} (h : MIn w base B M G s k) : S23 w base B M G k s a d false false w.drew :=
  ⟨Mw.drew _ _, fun _ => h.drew, (fun h _ => by cases h), (fun h => by cases h)⟩
set_option maxHeartbeats 8000000 in
theorem ex64_any {w : World} {base B M G k : Nat} {s : St} (h : MIn w base B M G s k) (a : W) (d : List W) (hl : s.data = a :: d) (ha : a.toNat < 262144) : Calls Tryz.prog 49 #[.pointer (some ⟨B, 0, none⟩), .int .u32 64] w fun e w' => (∃ u, e = .returned u) ∧ MIn w' base B M G { s with data := s.mem a.toNat :: d } k ∧ Mw base w w' := by
  have H := Keep.mk h
  have hdl : d.length < 256 := by have := h.le; rw [hl] at this; simp at this; omega
  have hBl := h.lt
  clear h
  go_enter Tryz.func49, Tryz.ntmps49
  go_upto_region 23 with (fail)
  refine wp_region_inv10 (P := Tryz.prog) (F := fun v0 v1 v2 v3 v4 v5 v6 v7 v8 v9 => { tmps := #[.pointer (some ⟨B, 0, none⟩), .int .u32 64, undef, undef, undef, undef, undef, undef, undef, undef, undef, undef, undef, undef, .int .u32 64, undef, undef, undef, undef, undef, undef, undef, undef, undef, undef, undef, undef, undef, undef, undef, undef, undef, undef, undef, undef, undef, .bool false, .bool false, .bool false, .bool false, .bool false, .bool false, .bool false, .bool false, .bool false, .bool false, .bool false, undef, undef, undef, undef, undef, undef, undef, undef, undef, undef, undef, undef, undef, undef, undef, undef, undef, undef, undef, undef, undef, undef, undef, undef, undef, undef, undef, undef, undef, undef, undef, .bool false, .bool false, .bool false, .bool true, .bool true, v0, v1, v2, v3, v4, v5, v6, v7, v8, v9, undef, undef, undef, undef, undef, undef, undef, undef, undef, undef, undef, undef, undef, undef, undef, undef, undef, undef, undef, undef, undef, undef, undef, undef, undef, undef, undef, undef, undef, undef, undef, undef, undef, undef, undef, undef, undef, undef, undef, undef, undef, undef, undef, undef, undef, undef, undef, undef, undef, undef, undef, undef, undef, undef, undef, undef, undef, undef, undef, undef, undef, undef, undef, undef, undef, undef, undef, undef, undef, undef, undef, undef, undef, undef, undef, undef, undef, undef, undef, undef, undef, undef, undef, undef, undef, undef, undef, undef, undef, undef, undef, undef, undef, undef, undef, undef, undef, undef, undef, undef, undef, undef, undef, undef, undef, undef, undef, undef, undef, undef, undef, undef, undef, undef, undef, undef, undef, undef, undef, undef, undef, undef, undef, undef, undef, undef], defers := [] })
    undef undef undef undef undef undef undef undef undef undef (fun L v0 v1 v2 v3 v4 v5 v6 v7 v8 v9 wx => RG (es23 B M a (s.mem a.toNat)) L [v0, v1, v2, v3, v4, v5, v6, v7, v8, v9] ∧ S23 w base B M G k s a d (L 6) (L 9) wx) ?_ ?_ ?_ ?_ ?_
  · kernel_rfl
  · kernel_rfl
  · exact ⟨RG.zero (by simp [es23]), S23.start H.out⟩
  · refine ⟨?_, ?_, ?_, ?_, ?_, ?_, ?_, ?_, ?_, ?_, trivial⟩
    · intro L v0 v1 v2 v3 v4 v5 v6 v7 v8 v9 wx hL hd hR K' hK
      rw [if_pos (by rfl)]
      obtain ⟨hR, hS⟩ := hR
      have HR := Keep.mk hR
      have HS := Keep.mk hS
      have HK := Keep.mk hK
      clear hd hL hR hS hK
      go_simp
      exact HK.out _ _ _ _ _ _ _ _ _ _ _ ⟨HR.out.put 0 (.pointer (some ⟨B, 0, none⟩)) (by simp) (by simp [es23]), HS.out.skip 0 (by decide) (by decide)⟩
    · intro L v0 v1 v2 v3 v4 v5 v6 v7 v8 v9 wx hL hd hR K' hK
      rw [if_pos (by rfl)]
      obtain ⟨hR, hS⟩ := hR
      have HR := Keep.mk hR
      have HS := Keep.mk hS
      have HK := Keep.mk hK
      clear hd hL hR hS hK
      go_simp
      exact HK.out _ _ _ _ _ _ _ _ _ _ _ ⟨HR.out.put 1 (.pointer (some ⟨B, 0, none⟩)) (by simp) (by simp [es23]), HS.out.skip 1 (by decide) (by decide)⟩
    · intro L v0 v1 v2 v3 v4 v5 v6 v7 v8 v9 wx hL hd hR K' hK
      rw [if_pos (by rfl)]
      have hd' : L 1 = true := by simpa [Region.binds] using hd
      obtain ⟨hR, hS⟩ := hR
      obtain rfl := hR.at 1 (e := (.pointer (some ⟨B, 0, none⟩))) rfl rfl hd'
      have HR := Keep.mk hR
      have HS := Keep.mk hS
      have HK := Keep.mk hK
      clear hd hL hR hS hK hd'
      go_simp
      exact HK.out _ _ _ _ _ _ _ _ _ _ _ ⟨HR.out.put 2 (.pointer (some ⟨B, 0, none⟩)) (by simp) (by simp [es23]), HS.out.skip 2 (by decide) (by decide)⟩
    · intro L v0 v1 v2 v3 v4 v5 v6 v7 v8 v9 wx hL hd hR K' hK
      rw [if_pos (by rfl)]
      have hd' : L 2 = true := by simpa [Region.binds] using hd
      obtain ⟨hR, hS⟩ := hR
      obtain rfl := hR.at 2 (e := (.pointer (some ⟨B, 0, none⟩))) rfl rfl hd'
      have HR := Keep.mk hR
      have HS := Keep.mk hS
      have HK := Keep.mk hK
      clear hd hL hR hS hK hd'
      go_simp
      exact HK.out _ _ _ _ _ _ _ _ _ _ _ ⟨HR.out.put 3 (.pointer (some ⟨B, 0, none⟩)) (by simp) (by simp [es23]), HS.out.skip 3 (by decide) (by decide)⟩
    · intro L v0 v1 v2 v3 v4 v5 v6 v7 v8 v9 wx hL hd hR K' hK
      rw [if_pos (by rfl)]
      have hd' : L 3 = true := by simpa [Region.binds] using hd
      obtain ⟨hR, hS⟩ := hR
      obtain rfl := hR.at 3 (e := (.pointer (some ⟨B, 0, none⟩))) rfl rfl hd'
      obtain ⟨s', hs', hm⟩ := hS.any
      have hm0 := hm.mem0
      have hbl := hm.lt
      clear hm hs'
      have HR := Keep.mk hR
      have HS := Keep.mk hS
      have HK := Keep.mk hK
      clear hd hL hR hS hK hd'
      go_simp
      exact HK.out _ _ _ _ _ _ _ _ _ _ _ ⟨HR.out.put 4 (.slice (some ⟨M, 0, none⟩) 262144 262144) (by simp) (by simp [es23]), HS.out.skip 4 (by decide) (by decide)⟩
    · intro L v0 v1 v2 v3 v4 v5 v6 v7 v8 v9 wx hL hd hR K' hK
      rw [if_pos (by rfl)]
      obtain ⟨hR, hS⟩ := hR
      have HR := Keep.mk hR
      have HS := Keep.mk hS
      have HK := Keep.mk hK
      clear hd hL hR hS hK
      go_simp
      exact HK.out _ _ _ _ _ _ _ _ _ _ _ ⟨HR.out.put 5 (.pointer (some ⟨B, 0, none⟩)) (by simp) (by simp [es23]), HS.out.skip 5 (by decide) (by decide)⟩
    · intro L v0 v1 v2 v3 v4 v5 v6 v7 v8 v9 wx hL hd hR K' hK
      rw [if_pos (by rfl)]
      have hd' : L 5 = true := by simpa [Region.binds] using hd
      obtain ⟨hR, hS⟩ := hR
      obtain rfl := hR.at 5 (e := (.pointer (some ⟨B, 0, none⟩))) rfl rfl hd'
      have h0 := hS.h0 hL
      have H0 := Keep.mk h0
      have HL := Keep.mk hL
      clear h0
      have HR := Keep.mk hR
      have HS := Keep.mk hS
      have HK := Keep.mk hK
      clear hd hL hR hS hK hd'
      go_simp
      refine (addr_any H0.out a d hl ha).mono ?_
      rintro _ wy ⟨rfl, hm, hw⟩
      refine HK.out _ _ _ _ _ _ _ _ _ _ _ ⟨HR.out.put 6 (.int .u32 (W32 a)) (by simp) (by simp [es23]), HS.out.mw.trans hw, fun h => by simp at h, fun _ _ => hm, fun h => ?_⟩
      have h9 : L 9 = true := by simpa using h
      have h6 := (HS.out.h9 h9).1
      rw [HL.out] at h6
      cases h6
    · intro L v0 v1 v2 v3 v4 v5 v6 v7 v8 v9 wx hL hd hR K' hK
      rw [if_pos (by rfl)]
      have hd' : L 4 = true ∧ L 6 = true := by simpa [Region.binds] using hd
      obtain ⟨hR, hS⟩ := hR
      obtain rfl := hR.at 4 (e := (.slice (some ⟨M, 0, none⟩) 262144 262144)) rfl rfl hd'.1
      obtain rfl := hR.at 6 (e := (.int .u32 (W32 a))) rfl rfl hd'.2
      have HR := Keep.mk hR
      have HS := Keep.mk hS
      have HK := Keep.mk hK
      clear hd hL hR hS hK hd'
      have fa0 : (0 : Int) ≤ W32 a := W32_lo a
      have fa1 : W32 a < 262144 := by unfold W32; omega
      have fa2 : (W32 a).toNat = a.toNat := rfl
      go_simp
      exact HK.out _ _ _ _ _ _ _ _ _ _ _ ⟨HR.out.put 7 (.pointer (some ⟨M, a.toNat, none⟩)) (by simp) (by simp [es23]), HS.out.skip 7 (by decide) (by decide)⟩
    · intro L v0 v1 v2 v3 v4 v5 v6 v7 v8 v9 wx hL hd hR K' hK
      rw [if_pos (by rfl)]
      have hd' : L 7 = true := by simpa [Region.binds] using hd
      obtain ⟨hR, hS⟩ := hR
      obtain rfl := hR.at 7 (e := (.pointer (some ⟨M, a.toNat, none⟩))) rfl rfl hd'
      obtain ⟨s', hs', hm⟩ := hS.any
      have hm0 := hm.word ha
      rw [hs'] at hm0
      have hbl := hm.mlt
      clear hm hs'
      have HR := Keep.mk hR
      have HS := Keep.mk hS
      have HK := Keep.mk hK
      clear hd hL hR hS hK hd'
      go_simp
      exact HK.out _ _ _ _ _ _ _ _ _ _ _ ⟨HR.out.put 8 (.int .u32 (W32 (s.mem a.toNat))) (by simp) (by simp [es23]), HS.out.skip 8 (by decide) (by decide)⟩
    · intro L v0 v1 v2 v3 v4 v5 v6 v7 v8 v9 wx hL hd hR K' hK
      rw [if_pos (by rfl)]
      have hd' : L 0 = true ∧ L 8 = true ∧ L 6 = true := by simpa [Region.binds] using hd
      obtain ⟨hR, hS⟩ := hR
      obtain rfl := hR.at 0 (e := (.pointer (some ⟨B, 0, none⟩))) rfl rfl hd'.1
      obtain rfl := hR.at 8 (e := (.int .u32 (W32 (s.mem a.toNat)))) rfl rfl hd'.2.1
      have h6 := hS.h6 hd'.2.2 hL
      have H6 := Keep.mk h6
      have HD := Keep.mk hd'.2.2
      have HL := Keep.mk hL
      clear h6
      have HR := Keep.mk hR
      have HS := Keep.mk hS
      have HK := Keep.mk hK
      clear hd hL hR hS hK hd'
      go_simp
      refine (push_any H6.out (s.mem a.toNat) hdl).mono ?_
      rintro _ wy ⟨⟨u, rfl⟩, hm, hw⟩
      exact HK.out _ _ _ _ _ _ _ _ _ _ _ ⟨HR.out.put 9 u (by simp) (by simp [es23]), HS.out.mw.trans hw, fun h => by simp [HD.out] at h, fun _ h => by simp at h, fun _ => ⟨by simp [HD.out], hm⟩⟩
  · intro v0 v1 v2 v3 v4 v5 v6 v7 v8 v9 wx hR
    have hF := (hR.2.h9 rfl).2
    have hM := hR.2.mw
    clear hR
    go_end0
    exact ⟨⟨_, rfl⟩, hF, hM⟩
set_option maxHeartbeats 8000000 in
theorem ex64_trap {w : World} {base B M G k : Nat} {s : St} (h : MIn w base B M G s k) (hc : ∀ wx, MIn wx base B M G s k → Calls Tryz.prog 64 #[.pointer (some ⟨B, 0, none⟩)] wx (TrapEnd wx base B M G k s)) :
    Calls Tryz.prog 49 #[.pointer (some ⟨B, 0, none⟩), .int .u32 64] w (TrapEnd w base B M G k s) := by
  have H := Keep.mk h
  have HC := Keep.mk hc
  have hBl := h.lt
  clear h hc
  go_enter Tryz.func49, Tryz.ntmps49
  go_upto_region 23 with (fail)
  refine wp_region_inv10 (P := Tryz.prog) (F := fun v0 v1 v2 v3 v4 v5 v6 v7 v8 v9 => { tmps := #[.pointer (some ⟨B, 0, none⟩), .int .u32 64, undef, undef, undef, undef, undef, undef, undef, undef, undef, undef, undef, undef, .int .u32 64, undef, undef, undef, undef, undef, undef, undef, undef, undef, undef, undef, undef, undef, undef, undef, undef, undef, undef, undef, undef, undef, .bool false, .bool false, .bool false, .bool false, .bool false, .bool false, .bool false, .bool false, .bool false, .bool false, .bool false, undef, undef, undef, undef, undef, undef, undef, undef, undef, undef, undef, undef, undef, undef, undef, undef, undef, undef, undef, undef, undef, undef, undef, undef, undef, undef, undef, undef, undef, undef, undef, .bool false, .bool false, .bool false, .bool true, .bool true, v0, v1, v2, v3, v4, v5, v6, v7, v8, v9, undef, undef, undef, undef, undef, undef, undef, undef, undef, undef, undef, undef, undef, undef, undef, undef, undef, undef, undef, undef, undef, undef, undef, undef, undef, undef, undef, undef, undef, undef, undef, undef, undef, undef, undef, undef, undef, undef, undef, undef, undef, undef, undef, undef, undef, undef, undef, undef, undef, undef, undef, undef, undef, undef, undef, undef, undef, undef, undef, undef, undef, undef, undef, undef, undef, undef, undef, undef, undef, undef, undef, undef, undef, undef, undef, undef, undef, undef, undef, undef, undef, undef, undef, undef, undef, undef, undef, undef, undef, undef, undef, undef, undef, undef, undef, undef, undef, undef, undef, undef, undef, undef, undef, undef, undef, undef, undef, undef, undef, undef, undef, undef, undef, undef, undef, undef, undef, undef, undef, undef, undef, undef, undef, undef, undef, undef], defers := [] })
    undef undef undef undef undef undef undef undef undef undef (fun L v0 v1 v2 v3 v4 v5 v6 v7 v8 v9 wx => RG (es23 B M 0 0) L [v0, v1, v2, v3, v4, v5, v6, v7, v8, v9] ∧ ST w base B M G k s (L 6) (L 7) wx) ?_ ?_ ?_ ?_ ?_
  · kernel_rfl
  · kernel_rfl
  · exact ⟨RG.zero (by simp [es23]), ST.start H.out⟩
  · refine ⟨?_, ?_, ?_, ?_, ?_, ?_, ?_, ?_, ?_, ?_, trivial⟩
    · intro L v0 v1 v2 v3 v4 v5 v6 v7 v8 v9 wx hL hd hR K' hK
      rw [if_pos (by rfl)]
      obtain ⟨hR, hS⟩ := hR
      have HR := Keep.mk hR
      have HS := Keep.mk hS
      have HK := Keep.mk hK
      clear hd hL hR hS hK
      go_simp
      exact HK.out _ _ _ _ _ _ _ _ _ _ _ ⟨HR.out.put 0 (.pointer (some ⟨B, 0, none⟩)) (by simp) (by simp [es23]), HS.out.skip 0 (by decide) (by decide)⟩
    · intro L v0 v1 v2 v3 v4 v5 v6 v7 v8 v9 wx hL hd hR K' hK
      rw [if_pos (by rfl)]
      obtain ⟨hR, hS⟩ := hR
      have HR := Keep.mk hR
      have HS := Keep.mk hS
      have HK := Keep.mk hK
      clear hd hL hR hS hK
      go_simp
      exact HK.out _ _ _ _ _ _ _ _ _ _ _ ⟨HR.out.put 1 (.pointer (some ⟨B, 0, none⟩)) (by simp) (by simp [es23]), HS.out.skip 1 (by decide) (by decide)⟩
    · intro L v0 v1 v2 v3 v4 v5 v6 v7 v8 v9 wx hL hd hR K' hK
      rw [if_pos (by rfl)]
      have hd' : L 1 = true := by simpa [Region.binds] using hd
      obtain ⟨hR, hS⟩ := hR
      obtain rfl := hR.at 1 (e := (.pointer (some ⟨B, 0, none⟩))) rfl rfl hd'
      have HR := Keep.mk hR
      have HS := Keep.mk hS
      have HK := Keep.mk hK
      clear hd hL hR hS hK hd'
      go_simp
      exact HK.out _ _ _ _ _ _ _ _ _ _ _ ⟨HR.out.put 2 (.pointer (some ⟨B, 0, none⟩)) (by simp) (by simp [es23]), HS.out.skip 2 (by decide) (by decide)⟩
    · intro L v0 v1 v2 v3 v4 v5 v6 v7 v8 v9 wx hL hd hR K' hK
      rw [if_pos (by rfl)]
      have hd' : L 2 = true := by simpa [Region.binds] using hd
      obtain ⟨hR, hS⟩ := hR
      obtain rfl := hR.at 2 (e := (.pointer (some ⟨B, 0, none⟩))) rfl rfl hd'
      have HR := Keep.mk hR
      have HS := Keep.mk hS
      have HK := Keep.mk hK
      clear hd hL hR hS hK hd'
      go_simp
      exact HK.out _ _ _ _ _ _ _ _ _ _ _ ⟨HR.out.put 3 (.pointer (some ⟨B, 0, none⟩)) (by simp) (by simp [es23]), HS.out.skip 3 (by decide) (by decide)⟩
    · intro L v0 v1 v2 v3 v4 v5 v6 v7 v8 v9 wx hL hd hR K' hK
      rw [if_pos (by rfl)]
      have hd' : L 3 = true := by simpa [Region.binds] using hd
      obtain ⟨hR, hS⟩ := hR
      obtain rfl := hR.at 3 (e := (.pointer (some ⟨B, 0, none⟩))) rfl rfl hd'
      have hm0 := hS.m.mem0
      have hbl := hS.m.lt
      have HR := Keep.mk hR
      have HS := Keep.mk hS
      have HK := Keep.mk hK
      clear hd hL hR hS hK hd'
      go_simp
      exact HK.out _ _ _ _ _ _ _ _ _ _ _ ⟨HR.out.put 4 (.slice (some ⟨M, 0, none⟩) 262144 262144) (by simp) (by simp [es23]), HS.out.skip 4 (by decide) (by decide)⟩
    · intro L v0 v1 v2 v3 v4 v5 v6 v7 v8 v9 wx hL hd hR K' hK
      rw [if_pos (by rfl)]
      obtain ⟨hR, hS⟩ := hR
      have HR := Keep.mk hR
      have HS := Keep.mk hS
      have HK := Keep.mk hK
      clear hd hL hR hS hK
      go_simp
      exact HK.out _ _ _ _ _ _ _ _ _ _ _ ⟨HR.out.put 5 (.pointer (some ⟨B, 0, none⟩)) (by simp) (by simp [es23]), HS.out.skip 5 (by decide) (by decide)⟩
    · intro L v0 v1 v2 v3 v4 v5 v6 v7 v8 v9 wx hL hd hR K' hK
      rw [if_pos (by rfl)]
      have hd' : L 5 = true := by simpa [Region.binds] using hd
      obtain ⟨hR, hS⟩ := hR
      obtain rfl := hR.at 5 (e := (.pointer (some ⟨B, 0, none⟩))) rfl rfl hd'
      have HR := Keep.mk hR
      have HS := Keep.mk hS
      have HK := Keep.mk hK
      clear hd hL hR hS hK hd'
      go_simp
      refine (HC.out wx HS.out.m).mono ?_
      rintro _ wy ⟨rfl, hm, hw⟩
      exact ⟨rfl, traps_is, hm, HS.out.mw.trans hw⟩
    · intro L v0 v1 v2 v3 v4 v5 v6 v7 v8 v9 wx hL hd hR K' hK
      rw [if_pos (by rfl)]
      exfalso
      have h6 : L 6 = true := by simp [Region.binds] at hd; exact hd.2
      rw [hR.2.no] at h6
      cases h6
    · intro L v0 v1 v2 v3 v4 v5 v6 v7 v8 v9 wx hL hd hR K' hK
      rw [if_pos (by rfl)]
      exfalso
      have h6 : L 7 = true := by simpa [Region.binds] using hd
      rw [hR.2.no7] at h6
      cases h6
    · intro L v0 v1 v2 v3 v4 v5 v6 v7 v8 v9 wx hL hd hR K' hK
      rw [if_pos (by rfl)]
      exfalso
      have h6 : L 6 = true := by simp [Region.binds] at hd; exact hd.2.2
      rw [hR.2.no] at h6
      cases h6
  · intro v0 v1 v2 v3 v4 v5 v6 v7 v8 v9 wx hR
    have := hR.2.no
    cases this
end Go.Proofs.YtojgopbaiflfgaaGreatDoor
