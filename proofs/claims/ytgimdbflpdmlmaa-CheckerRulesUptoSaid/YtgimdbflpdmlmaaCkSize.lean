/- The reference's measure of a program, walked: nodes, size, Size. No condition but the measure's own bound. -/
import Derived.Test.YtgimdbflpdmlmaaCkSz
import Derived.Test.YtgimdbflpdmlmaaCkExRow
import Derived.Test.YtgimdbflpdmlmaaCkStmt
import Derived.BigQuiet
namespace Go.Proofs.Ytgimdbflpdmlmaa
set_option maxRecDepth 100000
open Go.RowKit Go.Shelf Go.Proofs.Ytgimdbflpdmlmaa.Ck

set_option maxHeartbeats 8000000 in
/-- The measure of an expression. -/
theorem nodes_any (n : Nat) : ∀ (e : Ex) (u : Value) (w : World), ExsAt w n u e.args → e.sz ≤ 1000000000 →
    Calls Try.prog 44 #[.agg #[.string e.op, .int .u32 e.num, .string e.name, u]] w fun e' w' => e' = .returned (.int .i64 (e.sz : Int)) ∧ Below w.heap.size w w' := by
  induction n using Nat.strongRecOn with
  | ind n ih =>
  intro e u w hE hz
  obtain ⟨op, num, name, args⟩ := e
  change ExsAt w n u args at hE
  change Calls Try.prog 44 #[.agg #[.string op, .int .u32 num, .string name, u]] w _
  obtain ⟨ua, ucap, rfl, hu1, hu2⟩ := hE.len
  have hsz : (Ex.mk op num name args).sz = 1 + name.size / 8 + op.size / 8 + szL args := by rw [Ex.sz]
  generalize (Ex.mk op num name args).sz = z at *
  have HS := Keep.mk hsz
  have HE := Keep.mk hE
  have IH := Keep.mk ih
  have q1 : (name.size : Int).tdiv 8 = ((name.size / 8 : Nat) : Int) := rfl
  have q2 : (op.size : Int).tdiv 8 = ((op.size / 8 : Nat) : Int) := rfl
  have q3 : (name.size : Int) / 8 = ((name.size / 8 : Nat) : Int) := rfl
  have q4 : (op.size : Int) / 8 = ((op.size / 8 : Nat) : Int) := rfl
  have b1 : name.size / 8 ≤ 1000000000 := by omega
  have b2 : op.size / 8 ≤ 1000000000 := by omega
  have HB0 : Keep (1 + name.size / 8 + op.size / 8 + szL args ≤ 1000000000) := ⟨by omega⟩
  obtain ⟨n1, hn1⟩ : ∃ n1, n1 = name.size / 8 := ⟨_, rfl⟩
  obtain ⟨n2, hn2⟩ : ∃ n2, n2 = op.size / 8 := ⟨_, rfl⟩
  rw [← hn1] at q1 q3 b1 HS HB0
  rw [← hn2] at q2 q4 b2 HS HB0
  unfold maxLen at hu2
  clear hE ih hsz hz hn1 hn2
  go_enter Try.func44, Try.ntmps44
  have hb0 : Below w.heap.size w (w.alloc (.cells #[.string op, .int .u32 num, .string name, .slice ua args.length ucap] 42)) := (Below.refl _ _).alloc (Nat.le_refl _) _
  have HBa := Keep.mk hb0
  clear hb0
  go_wp2_with fail
  clear q1 q2 q3 q4
  go_loopw [19, 3] (fun i s wr => ∃ k : Nat, k ≤ args.length ∧ i = .int .i64 k ∧ s = .int .i64 ((1 + n1 + n2 + szL (args.take k) : Nat) : Int) ∧ Keep (Below w.heap.size w wr)) (fun i _ _ => args.length - (intOf i).toNat)
  case atStart => exact ⟨0, Nat.zero_le _, rfl, by rw [List.take_zero, szL]; simp, HBa⟩
  case round =>
    obtain ⟨k, hk, rfl, rfl, HBr⟩ := hrel
    clear HBa
    by_cases hlt : k < args.length
    · have k0 : (0 : Int) ≤ k := by omega
      have k1 : (k : Int) < args.length := by omega
      obtain ⟨e, hek⟩ : ∃ e, args[k]? = some e := ⟨_, List.getElem?_eq_getElem hlt⟩
      obtain ⟨m, b, o, cap, u, hnm, hua, hb, x0, x1, x2, x3, hu⟩ := HE.out.get hek
      simp only [Value.slice.injEq, true_and] at hua
      obtain ⟨rfl, rfl⟩ := hua
      have z0 := (HBr.out.cell (p := ⟨b, o + k * 4, none⟩) hb).trans x0
      have z1 := (HBr.out.cell (p := ⟨b, o + k * 4 + 1, none⟩) hb).trans x1
      have z2 := (HBr.out.cell (p := ⟨b, o + k * 4 + 2, none⟩) hb).trans x2
      have z3 := (HBr.out.cell (p := ⟨b, o + k * 4 + 3, none⟩) hb).trans x3
      have hbl : b < wr.heap.size := Nat.lt_of_lt_of_le hb HBr.out.size
      have HST := Keep.mk (szL_step hek)
      have HTK := Keep.mk (szL_take args (k + 1))
      obtain ⟨uu, ucap', rfl, _, _⟩ := hu.len
      have HU := Keep.mk hu
      clear x0 x1 x2 x3 hek hu
      go_upto_region 5 with (fail)
      have hbs : Below wr.heap.size wr (wr.alloc (.cells #[.string e.op, .int .u32 e.num, .string e.name, .slice uu e.args.length ucap'] 42)) := (Below.refl _ _).alloc (Nat.le_refl _) _
      have HBs := Keep.mk (HBr.out.trans (hbs.mono HBr.out.size))
      have hZ : (wr.alloc (.cells #[.string e.op, .int .u32 e.num, .string e.name, .slice uu e.args.length ucap'] 42)).heap[wr.heap.size]? = some (.cells #[.string e.op, .int .u32 e.num, .string e.name, .slice uu e.args.length ucap'] 42 (0, 0)) := heap_alloc_new wr _
      have p0 : (wr.alloc (.cells #[.string e.op, .int .u32 e.num, .string e.name, .slice uu e.args.length ucap'] 42)).cell? ⟨wr.heap.size, 0, none⟩ = some (.string e.op) := by simp only [World.cell?, hZ]; rfl
      have p1 : (wr.alloc (.cells #[.string e.op, .int .u32 e.num, .string e.name, .slice uu e.args.length ucap'] 42)).cell? ⟨wr.heap.size, 1, none⟩ = some (.int .u32 e.num) := by simp only [World.cell?, hZ]; rfl
      have p2 : (wr.alloc (.cells #[.string e.op, .int .u32 e.num, .string e.name, .slice uu e.args.length ucap'] 42)).cell? ⟨wr.heap.size, 2, none⟩ = some (.string e.name) := by simp only [World.cell?, hZ]; rfl
      have p3 : (wr.alloc (.cells #[.string e.op, .int .u32 e.num, .string e.name, .slice uu e.args.length ucap'] 42)).cell? ⟨wr.heap.size, 3, none⟩ = some (.slice uu e.args.length ucap') := by simp only [World.cell?, hZ]; rfl
      have pl : wr.heap.size < (wr.alloc (.cells #[.string e.op, .int .u32 e.num, .string e.name, .slice uu e.args.length ucap'] 42)).heap.size := by simp
      clear hZ hbs z0 z1 z2 z3 hbl HBr
      generalize (wr.alloc (.cells #[.string e.op, .int .u32 e.num, .string e.name, .slice uu e.args.length ucap'] 42)) = ws at *
      have hes : e.sz ≤ 1000000000 := by have := HST.out; have := HTK.out; have := HB0.out; omega
      have hts : 1 + n1 + n2 + szL (args.take k) ≤ 1000000000 := by have := HST.out; have := HTK.out; have := HB0.out; omega
      have HI := Keep.mk (IH.out m (by omega) e _ ws (HU.out.below HBs.out (Nat.le_refl _)) hes)
      have HEQ : Keep (1 + n1 + n2 + szL (args.take k) + e.sz = 1 + n1 + n2 + szL (args.take (k + 1))) := ⟨by have := HST.out; omega⟩
      clear IH
      generalize 1 + n1 + n2 + szL (args.take k) = acc at *
      generalize e.sz = es at *
      go_wp2_with fail
      refine HI.out.mono ?_
      rintro _ w4 ⟨rfl, hb4⟩
      have HB4 := Keep.mk (HBs.out.trans (hb4.mono HBs.out.size))
      clear p0 p1 p2 p3 pl hb4
      go_wp2_with fail
      go_roundw
      case rel => exact ⟨k + 1, by omega, by go_num, by rw [← HEQ.out]; go_num, HB4⟩
      case measure => simp [intOf]; omega
    · have hka : k = args.length := by omega
      subst hka
      rw [List.take_length]
      rw [← HS.out]
      go_wp2_with fail
      go_ret
      exact ⟨rfl, HBr.out⟩

theorem held_onS {w3 wx w' : World} (h : Below wx.heap.size wx w') (h3 : Below w3.heap.size w3 wx) : Below w3.heap.size w3 w' := h3.trans (h.mono h3.size)
set_option maxHeartbeats 16000000 in
/-- The measure of statements. -/
theorem size_any (n : Nat) : ∀ (l : List St) (u : Value) (w : World), StsAt w n u l → szS l ≤ 1000000000 →
    Calls Try.prog 28 #[u] w fun e' w' => e' = .returned (.int .i64 (szS l : Int)) ∧ Below w.heap.size w w' := by
  induction n using Nat.strongRecOn with
  | ind n ih =>
  intro l u w hE hz
  obtain ⟨ua, ucap, rfl, hu1, hu2⟩ := hE.len
  have HE := Keep.mk hE
  have IH := Keep.mk ih
  have HZ := Keep.mk hz
  unfold maxLen at hu2
  clear hE ih hz
  obtain ⟨i0, hi, hz0, hz1, hz2⟩ := info_parts Try.infoExpr
  go_enter Try.func28, Try.ntmps28
  have HB0 := Keep.mk (Below.refl w.heap.size w)
  go_wp2_with fail
  go_loopw [10, 3] (fun i s wr => ∃ k : Nat, k ≤ l.length ∧ i = .int .i64 k ∧ s = .int .i64 ((szS (l.take k) : Nat) : Int) ∧ Keep (Below w.heap.size w wr)) (fun i _ _ => l.length - (intOf i).toNat)
  case atStart => exact ⟨0, Nat.zero_le _, rfl, by rw [List.take_zero, szS]; rfl, HB0⟩
  case round =>
    obtain ⟨k, hk, rfl, rfl, HBr⟩ := hrel
    clear HB0
    by_cases hlt : k < l.length
    · have k0 : (0 : Int) ≤ k := by omega
      have k1 : (k : Int) < l.length := by omega
      obtain ⟨s, hsk⟩ : ∃ s, l[k]? = some s := ⟨_, List.getElem?_eq_getElem hlt⟩
      obtain ⟨m, b, o, cap, ui, uv, ut, ue, hnm, hua, hb, x0, x1, x2, x3, x4, x5, hI, hV, hT, hEl⟩ := HE.out.get hsk
      simp only [Value.slice.injEq, true_and] at hua
      obtain ⟨rfl, rfl⟩ := hua
      have HST := Keep.mk (szS_step hsk)
      have HTK := Keep.mk (szS_take l (k + 1))
      clear hsk
      obtain ⟨kd, name, index, value, thn, els⟩ := s
      change ∃ m, ExsAt w m ui index at hI
      change ∃ m, ExsAt w m uv value at hV
      change StsAt w m ut thn at hT
      change StsAt w m ue els at hEl
      obtain ⟨mi, hI⟩ := hI
      obtain ⟨mv, hV⟩ := hV
      change w.cell? ⟨b, o + k * 6, none⟩ = some (.int .i64 kd) at x0
      change w.cell? ⟨b, o + k * 6 + 1, none⟩ = some (.string name) at x1
      have z0 := (HBr.out.cell (p := ⟨b, o + k * 6, none⟩) hb).trans x0
      have z1 := (HBr.out.cell (p := ⟨b, o + k * 6 + 1, none⟩) hb).trans x1
      have z2 := (HBr.out.cell (p := ⟨b, o + k * 6 + 2, none⟩) hb).trans x2
      have z3 := (HBr.out.cell (p := ⟨b, o + k * 6 + 3, none⟩) hb).trans x3
      have z4 := (HBr.out.cell (p := ⟨b, o + k * 6 + 4, none⟩) hb).trans x4
      have z5 := (HBr.out.cell (p := ⟨b, o + k * 6 + 5, none⟩) hb).trans x5
      have hbl : b < wr.heap.size := Nat.lt_of_lt_of_le hb HBr.out.size
      obtain ⟨ia, ic, rfl, _, _⟩ := hI.len
      obtain ⟨va, vc, rfl, _, _⟩ := hV.len
      obtain ⟨ta, tc, rfl, _, _⟩ := hT.len
      obtain ⟨ea, ec, rfl, _, _⟩ := hEl.len
      obtain ⟨cI, HSI, HRI⟩ := hI.slc
      obtain ⟨cV, HSV, HRV⟩ := hV.slc
      have HII := Keep.mk (And.intro HSI HRI)
      have HVV := Keep.mk (And.intro HSV HRV)
      have HT := Keep.mk hT
      have HEl := Keep.mk hEl
      have hmn : m < n := by omega
      clear x0 x1 x2 x3 x4 x5 hI hV hT hEl hnm HSI HRI HSV HRV
      go_upto_region 5 with (fail)
      obtain ⟨wz, hwz⟩ : ∃ wz, wz = (wr.alloc (.cells #[.int .i64 kd, .string name, .slice ia index.length ic, .slice va value.length vc, .slice ta thn.length tc, .slice ea els.length ec] 46)) := ⟨_, rfl⟩
      rw [← hwz]
      have hbz : Below wr.heap.size wr wz := by rw [hwz]; exact (Below.refl _ _).alloc (Nat.le_refl _) _
      have hZ : wz.heap[wr.heap.size]? = some (.cells #[.int .i64 kd, .string name, .slice ia index.length ic, .slice va value.length vc, .slice ta thn.length tc, .slice ea els.length ec] 46 (0, 0)) := by rw [hwz]; exact heap_alloc_new wr _
      have HBz := Keep.mk (HBr.out.trans (hbz.mono HBr.out.size))
      have HZc := Keep.mk hZ
      have hzl : wr.heap.size < wz.heap.size := (Array.getElem?_eq_some_iff.1 hZ).1
      have HS1 : Keep (∀ w', Below wz.heap.size wz w' → ((w'.cell? ⟨wr.heap.size, 1, none⟩ = some (.string name) ∧ w'.cell? ⟨wr.heap.size, 4, none⟩ = some (.slice ta thn.length tc)) ∧ w'.cell? ⟨wr.heap.size, 5, none⟩ = some (.slice ea els.length ec)) ∧ Below wz.heap.size wz w') := ⟨fun w' hb => by
        have e := (hb.block wr.heap.size hzl).trans HZc.out
        exact ⟨⟨⟨by simp [World.cell?, e], by simp [World.cell?, e]⟩, by simp [World.cell?, e]⟩, hb⟩⟩
      have HS2 : Keep (∀ w', Below wz.heap.size wz w' → (w'.cell? ⟨wr.heap.size, 3, none⟩ = some (.slice va value.length vc) ∧ w'.cell? ⟨wr.heap.size, 2, none⟩ = some (.slice ia index.length ic)) ∧ Below wz.heap.size wz w') := ⟨fun w' hb => by
        have e := (hb.block wr.heap.size hzl).trans HZc.out
        exact ⟨⟨by simp [World.cell?, e], by simp [World.cell?, e]⟩, hb⟩⟩
      clear hwz hbz hZ z0 z1 z2 z3 z4 z5 hbl HBr
      have HSS : Keep ((St.mk kd name index value thn els).sz = 1 + name.size / 8 + szS thn + szS els + szL value + szL index) := ⟨by rw [St.sz]⟩
      have hbnd : szS (l.take k) + (1 + name.size / 8 + szS thn + szS els + szL value + szL index) ≤ 1000000000 := by have := HST.out; have := HTK.out; have := HZ.out; have := HSS.out; omega
      have HCT : Keep (∀ wx, Below wz.heap.size wz wx → Calls Try.prog 28 #[.slice ta thn.length tc] wx fun e' w' => e' = .returned (.int .i64 (szS thn : Int)) ∧ Below wx.heap.size wx w') := ⟨fun wx hx => IH.out m hmn thn _ wx (HT.out.below (HBz.out.trans (hx.mono HBz.out.size)) (Nat.le_refl _)) (by omega)⟩
      have HCE : Keep (∀ wx, Below wz.heap.size wz wx → Calls Try.prog 28 #[.slice ea els.length ec] wx fun e' w' => e' = .returned (.int .i64 (szS els : Int)) ∧ Below wx.heap.size wx w') := ⟨fun wx hx => IH.out m hmn els _ wx (HEl.out.below (HBz.out.trans (hx.mono HBz.out.size)) (Nat.le_refl _)) (by omega)⟩
      have HNX : Keep (szS (l.take k) + (1 + name.size / 8 + szS thn + szS els) + szL (value ++ index) = szS (l.take (k + 1))) := ⟨by rw [szL_append]; have := HST.out; have := HSS.out; omega⟩
      have hlv := length_szL value
      have hli := length_szL index
      have q1 : (name.size : Int).tdiv 8 = ((name.size / 8 : Nat) : Int) := rfl
      have q3 : (name.size : Int) / 8 = ((name.size / 8 : Nat) : Int) := rfl
      clear HST HTK HSS
      generalize name.size / 8 = n1 at *
      generalize hs1 : szS thn = s1 at *
      generalize hs2 : szS els = s2 at *
      generalize szS (l.take k) = acc at *
      clear hs1 hs2
      have r0 : IntKind.i64.wrap (n1 : Int) = n1 := IntWalk.i64_in _ (by omega)
      have r1 : IntKind.i64.wrap (1 + (n1 : Int)) = 1 + n1 := IntWalk.i64_in _ (by omega)
      have r2 : IntKind.i64.wrap (1 + (n1 : Int) + s1) = 1 + n1 + s1 := IntWalk.i64_in _ (by omega)
      have r3 : IntKind.i64.wrap (1 + (n1 : Int) + s1 + s2) = 1 + n1 + s1 + s2 := IntWalk.i64_in _ (by omega)
      have r4 : IntKind.i64.wrap ((acc : Int) + (1 + (n1 : Int) + s1 + s2)) = acc + (1 + n1 + s1 + s2) := IntWalk.i64_in _ (by omega)
      go_cut [3] from 14 to 29 (fun v wx => v = .int .i64 ((acc + (1 + n1 + s1 + s2) : Nat) : Int) ∧ Below wz.heap.size wz wx)
      case first =>
        clear HII HVV HS2 HT HEl
        go_region_held3 (fun w' => ((w'.cell? ⟨wr.heap.size, 1, none⟩ = some (.string name) ∧ w'.cell? ⟨wr.heap.size, 4, none⟩ = some (.slice ta thn.length tc)) ∧ w'.cell? ⟨wr.heap.size, 5, none⟩ = some (.slice ea els.length ec)) ∧ Below wz.heap.size wz w')
          (first | with_reducible exact HS1.out _ (Below.refl wz.heap.size wz).drew | with_reducible exact HS1.out _ (Below.refl wz.heap.size wz) | with_reducible exact HS1.out _ (held_onS hb4 (And.right (by assumption))) | with_reducible assumption)
          (first
            | (go_at_call 28; (with_reducible refine (HCT.out _ ?_).mono ?_); (exact And.right (by assumption)); rintro e w4 ⟨rfl, hb4⟩)
            | (go_at_call 28; (with_reducible refine (HCE.out _ ?_).mono ?_); (exact And.right (by assumption)); rintro e w4 ⟨rfl, hb4⟩))
        all_goals (go_wp2; go_meet; exact ⟨by go_num, And.right (by assumption)⟩)
      case rest =>
      obtain ⟨rfl, hbc⟩ := hcut
      clear r0 r1 r2 r3 r4 q1 q3 HCT HCE HS1 HT HEl
      have HBc := Keep.mk (HBz.out.trans (hbc.mono HBz.out.size))
      have hzc := hbc.size
      have HSc : Keep (∀ w', Below wc.heap.size wc w' → (w'.cell? ⟨wr.heap.size, 3, none⟩ = some (.slice va value.length vc) ∧ w'.cell? ⟨wr.heap.size, 2, none⟩ = some (.slice ia index.length ic)) ∧ Below wc.heap.size wc w') := ⟨fun w' h => ⟨(HS2.out w' (hbc.trans (h.mono hbc.size))).1, h⟩⟩
      have hA0 : (wc.alloc (.cells #[] 42)).drew.ownsRow wc.heap.size 42 4 (.slice (some ⟨wc.heap.size, 0, none⟩) 0 0) 0 [] := World.ownsRow_made (base := wc.heap.size) (e := 42) (size := 4) wc #[] 0 (Nat.le_refl _) (by decide) rfl
      have HA0 := Keep.mk hA0
      have hb0 : Below wc.heap.size wc (wc.alloc (.cells #[] 42)).drew := ((Below.refl _ _).alloc (Nat.le_refl _) _).drew
      have HBA0 := Keep.mk hb0
      clear hA0 hb0 HS2 hbc
      go_upto_region 6 with (fail)
      go_region_held3 (fun w' => (w'.cell? ⟨wr.heap.size, 3, none⟩ = some (.slice va value.length vc) ∧ w'.cell? ⟨wr.heap.size, 2, none⟩ = some (.slice ia index.length ic)) ∧ Below wc.heap.size wc w')
        (first | with_reducible exact HSc.out _ (Below.refl wc.heap.size wc).drew | with_reducible exact HSc.out _ (Below.refl wc.heap.size wc) | with_reducible exact HSc.out _ HBA0.out | with_reducible exact HSc.out _ H5.out.2 | with_reducible exact HSc.out _ H6.out.2 | with_reducible assumption)
        (first
          | (rw [if_pos (by rfl)]; (refine wp_append_slc2 (.tmp 29) (.tmp 31) 40 rfl wc.heap.size 42 i0 (.agg #[.string ⟨#[]⟩, .int .u32 0, .string ⟨#[]⟩, .slice none 0 0]) 4 64 Try.underlying40 hi hz0 hz1 hz2 rfl (by decide) _ 0 [] rfl HA0.out _ value.length cV rfl (HVV.out.1.below (HBc.out.trans (HBA0.out.mono HBc.out.size)) (Nat.le_refl _)) HVV.out.2.one (by unfold maxLen; omega) (by omega) HBA0.out.size ?_); intro v5 w5 hown5 hg5 hv5; have H5 := Keep.mk (And.intro hown5 (below_append HBA0.out HBA0.out.size HA0.out (Nat.le_refl _) hg5)); clear hown5 hg5 hv5)
          | (rw [if_pos (by rfl)]; (refine wp_append_slc2 (.tmp 32) (.tmp 34) 40 rfl wc.heap.size 42 i0 (.agg #[.string ⟨#[]⟩, .int .u32 0, .string ⟨#[]⟩, .slice none 0 0]) 4 64 Try.underlying40 hi hz0 hz1 hz2 rfl (by decide) _ (0 + value.length) ([] ++ cV) rfl H5.out.1 _ index.length cI rfl (HII.out.1.below (HBc.out.trans (H5.out.2.mono HBc.out.size)) (Nat.le_refl _)) HII.out.2.one (by unfold maxLen; omega) (by omega) H5.out.2.size ?_); intro v6 w6 hown6 hg6 hv6; obtain ⟨a6, c6, rfl⟩ := ownsRow_slice hown6; have H6 := Keep.mk (And.intro hown6 (below_append H5.out.2 H5.out.2.size H5.out.1 (Nat.le_refl _) hg6)); clear hown6 hg6 hv6))
      have HB6 := Keep.mk (HBc.out.trans (H6.out.2.mono HBc.out.size))
      obtain ⟨nj, hJ⟩ := exs_joined (l1 := value) (l2 := index) HVV.out.2 HII.out.2 HB6.out (by simpa using H6.out.1)
      have HJ := Keep.mk hJ
      clear hJ HSc HA0 HBA0 H5 H6 HVV HII HBc HBz HZc
      obtain ⟨L, hL⟩ : ∃ L, L = value ++ index := ⟨_, rfl⟩
      rw [← hL] at HJ HNX
      have e1 : 0 + value.length + index.length = L.length := by rw [hL, List.length_append]; omega
      have e2 : (value.length : Int) + (index.length : Int) = (L.length : Int) := by rw [hL, List.length_append]; omega
      have e3 : value.length + index.length = L.length := by rw [hL, List.length_append]
      have hLz : L.length ≤ szL L := length_szL L
      have hLb : acc + (1 + n1 + s1 + s2) + szL L ≤ 1000000000 := by rw [hL, szL_append]; omega
      have HZ0 := Keep.mk (And.intro hlt hk)
      have e4 : (acc : Int) + (1 + (n1 : Int) + s1 + s2) = ((acc + (1 + n1 + s1 + s2) : Nat) : Int) := by omega
      rw [e1, e2, e4]
      rw [e3] at HJ
      clear e1 e2 e3 e4 hL hbnd hlv hli hzc hzl
      generalize acc + (1 + n1 + s1 + s2) = ac at *
      generalize wr = wo at *
      go_wp2_with fail
      go_loopw [37, 3] (fun i s wr => ∃ j : Nat, j ≤ L.length ∧ i = .int .i64 j ∧ s = .int .i64 ((ac + szL (L.take j) : Nat) : Int) ∧ Keep (Below w.heap.size w wr) ∧ Keep (ExsAt wr nj (.slice a6 L.length c6) L)) (fun i _ _ => L.length - (intOf i).toNat)
      case atStart => exact ⟨0, Nat.zero_le _, rfl, by rw [List.take_zero, szL]; simp, HB6, HJ⟩
      case round =>
        obtain ⟨j, hj, rfl, rfl, HBr, HJr⟩ := hrel
        clear HB6 HJ
        by_cases hlj : j < L.length
        · have j0 : (0 : Int) ≤ j := by omega
          have j1 : (j : Int) < L.length := by omega
          obtain ⟨e, hej⟩ : ∃ e, L[j]? = some e := ⟨_, List.getElem?_eq_getElem hlj⟩
          obtain ⟨me, b', o', cap', u, hme, hua, hb', z0, z1, z2, z3, hu⟩ := HJr.out.get hej
          simp only [Value.slice.injEq, true_and] at hua
          obtain ⟨rfl, rfl⟩ := hua
          have HST := Keep.mk (szL_step hej)
          have HTK := Keep.mk (szL_take L (j + 1))
          obtain ⟨uu, ucap', rfl, _, _⟩ := hu.len
          have HU := Keep.mk hu
          clear hej hu hme
          go_upto_region 9 with (fail)
          have hbs : Below wr.heap.size wr (wr.alloc (.cells #[.string e.op, .int .u32 e.num, .string e.name, .slice uu e.args.length ucap'] 42)) := (Below.refl _ _).alloc (Nat.le_refl _) _
          have HBs := Keep.mk (HBr.out.trans (hbs.mono HBr.out.size))
          have HJs := Keep.mk (HJr.out.below hbs (Nat.le_refl _))
          have HUs := Keep.mk (HU.out.below hbs (Nat.le_refl _))
          have hZ : (wr.alloc (.cells #[.string e.op, .int .u32 e.num, .string e.name, .slice uu e.args.length ucap'] 42)).heap[wr.heap.size]? = some (.cells #[.string e.op, .int .u32 e.num, .string e.name, .slice uu e.args.length ucap'] 42 (0, 0)) := heap_alloc_new wr _
          have p0 : (wr.alloc (.cells #[.string e.op, .int .u32 e.num, .string e.name, .slice uu e.args.length ucap'] 42)).cell? ⟨wr.heap.size, 0, none⟩ = some (.string e.op) := by simp only [World.cell?, hZ]; rfl
          have p1 : (wr.alloc (.cells #[.string e.op, .int .u32 e.num, .string e.name, .slice uu e.args.length ucap'] 42)).cell? ⟨wr.heap.size, 1, none⟩ = some (.int .u32 e.num) := by simp only [World.cell?, hZ]; rfl
          have p2 : (wr.alloc (.cells #[.string e.op, .int .u32 e.num, .string e.name, .slice uu e.args.length ucap'] 42)).cell? ⟨wr.heap.size, 2, none⟩ = some (.string e.name) := by simp only [World.cell?, hZ]; rfl
          have p3 : (wr.alloc (.cells #[.string e.op, .int .u32 e.num, .string e.name, .slice uu e.args.length ucap'] 42)).cell? ⟨wr.heap.size, 3, none⟩ = some (.slice uu e.args.length ucap') := by simp only [World.cell?, hZ]; rfl
          have pl : wr.heap.size < (wr.alloc (.cells #[.string e.op, .int .u32 e.num, .string e.name, .slice uu e.args.length ucap'] 42)).heap.size := by simp
          clear hZ hbs z0 z1 z2 z3 HBr HJr HU hb'
          generalize (wr.alloc (.cells #[.string e.op, .int .u32 e.num, .string e.name, .slice uu e.args.length ucap'] 42)) = ws at *
          have hes : e.sz ≤ 1000000000 := by have := HST.out; have := HTK.out; omega
          have hts : ac + szL (L.take j) ≤ 1000000000 := by have := HST.out; have := HTK.out; omega
          have HI := Keep.mk (nodes_any me e _ ws HUs.out hes)
          have HEQ : Keep (ac + szL (L.take j) + e.sz = ac + szL (L.take (j + 1))) := ⟨by have := HST.out; omega⟩
          generalize ac + szL (L.take j) = acc' at *
          generalize e.sz = es at *
          go_wp2_with fail
          refine HI.out.mono ?_
          rintro _ w4 ⟨rfl, hb4⟩
          have HB4 := Keep.mk (HBs.out.trans (hb4.mono HBs.out.size))
          have HJ4 := Keep.mk (HJs.out.below hb4 (Nat.le_refl _))
          clear p0 p1 p2 p3 pl hb4
          go_wp2_with fail
          go_roundw
          case rel => exact ⟨j + 1, by omega, by go_num, by rw [← HEQ.out]; go_num, HB4, HJ4⟩
          case measure => simp [intOf]; omega
        · have hja : j = L.length := by omega
          subst hja
          rw [List.take_length, HNX.out]
          go_wp2_with fail
          go_roundw
          case rel => exact ⟨k + 1, by omega, by go_num, rfl, HBr⟩
          case measure => simp [intOf]; omega
    · have hka : k = l.length := by omega
      subst hka
      rw [List.take_length]
      go_wp2_with fail
      go_ret
      exact ⟨rfl, HBr.out⟩
end Go.Proofs.Ytgimdbflpdmlmaa
