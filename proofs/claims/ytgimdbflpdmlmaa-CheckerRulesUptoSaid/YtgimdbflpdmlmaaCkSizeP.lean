/- The reference's Size of a program, walked. No condition but the measure's own bound. -/
import Derived.Test.YtgimdbflpdmlmaaCkSize
import Derived.Test.YtgimdbflpdmlmaaCkProgram
namespace Go.Proofs.Ytgimdbflpdmlmaa
set_option maxRecDepth 100000
open Go.RowKit Go.Shelf Go.Proofs.Ytgimdbflpdmlmaa.Ck

theorem Strs.get {w : World} {v : Value} {l : List ByteArray} (h : Strs w v l) {i : Nat} {s : ByteArray} (hi : l[i]? = some s) : ∃ b o cap, v = .slice (some ⟨b, o, none⟩) l.length cap ∧ b < w.heap.size ∧ w.cell? ⟨b, o + i, none⟩ = some (.string s) := by
  have hlt := (List.getElem?_eq_some_iff.1 hi).1
  obtain ⟨a, cap, rfl, h1, h2, h3⟩ := h
  rcases h3 with rfl | ⟨b, o, rfl, hb, hc⟩
  · simp at hlt
  · exact ⟨b, o, cap, rfl, hb, hc i s hi⟩
theorem Strs.len {w : World} {v : Value} {l : List ByteArray} (h : Strs w v l) : ∃ a cap, v = .slice a l.length cap ∧ l.length ≤ cap ∧ cap ≤ maxLen := by obtain ⟨a, cap, rfl, h1, h2, _⟩ := h; exact ⟨a, cap, rfl, h1, h2⟩
theorem strCells_append (l m : List ByteArray) : strCells (l ++ m) = strCells l ++ strCells m := by unfold strCells; rw [List.map_append]
theorem strCells_one (l : List ByteArray) : ∀ x ∈ strCells l, x.oneCell' = true := fun x hx => by
  unfold strCells at hx
  obtain ⟨s, _, rfl⟩ := List.mem_map.1 hx
  rfl
set_option maxHeartbeats 16000000 in
theorem sizeP_any {w : World} {vs rs fs : Value} {p : Pr} (h : PrAt w vs rs fs p) (hz : sizeP p ≤ 1000000000) :
    Calls Try.prog 12 #[.agg #[vs, rs, fs]] w fun e w' => e = .returned (.int .i64 (sizeP p : Int)) ∧ Below w.heap.size w w' := by
  obtain ⟨h1, h2, h3⟩ := h
  obtain ⟨a1, c1, rfl, k1, k2⟩ := h1.len
  obtain ⟨a2, c2, rfl, k3, k4⟩ := h2.len
  obtain ⟨a3, c3, rfl, k5, k6⟩ := h3.len
  unfold maxLen at k2 k4 k6
  have H1 := Keep.mk h1
  have H2 := Keep.mk h2
  have H3 := Keep.mk h3
  have hb1 : p.vars.length ≤ 1000000000 := by unfold sizeP at hz; omega
  have hb2 : p.arrays.length ≤ 1000000000 := by unfold sizeP at hz; omega
  have HZ := Keep.mk hz
  have HP : Keep (sizeP p = p.vars.length + p.arrays.length + eighths p.vars + eighths (p.arrays.map (·.1)) + (p.funcs.map fuSz).sum) := ⟨rfl⟩
  generalize sizeP p = sp at *
  clear h1 h2 h3 hz
  obtain ⟨i0, hi, hz0, hz1, hz2⟩ := info_parts Try.infoStrS
  go_enter Try.func12, Try.ntmps12
  have hba : Below w.heap.size w (w.alloc (.cells #[.slice a1 p.vars.length c1, .slice a2 p.arrays.length c2, .slice a3 p.funcs.length c3] 26)) := (Below.refl _ _).alloc (Nat.le_refl _) _
  have HX : (w.alloc (.cells #[.slice a1 p.vars.length c1, .slice a2 p.arrays.length c2, .slice a3 p.funcs.length c3] 26)).heap[w.heap.size]? = some (.cells #[.slice a1 p.vars.length c1, .slice a2 p.arrays.length c2, .slice a3 p.funcs.length c3] 26 (0, 0)) := heap_alloc_new w _
  have HBa := Keep.mk hba
  have HXa := Keep.mk HX
  clear hba HX
  go_wp2_with fail
  go_loopw [22, 3] (fun i s wr => ∃ k : Nat, k ≤ p.vars.length ∧ i = .int .i64 k ∧ s = .int .i64 ((p.vars.length + p.arrays.length + eighths (p.vars.take k) : Nat) : Int) ∧ Keep (wr.heap[w.heap.size]? = some (.cells #[.slice a1 p.vars.length c1, .slice a2 p.arrays.length c2, .slice a3 p.funcs.length c3] 26 (0, 0))) ∧ Keep (Below w.heap.size w wr)) (fun i _ _ => p.vars.length - (intOf i).toNat)
  case atStart => exact ⟨0, Nat.zero_le _, rfl, by rw [List.take_zero]; simp [eighths], HXa, HBa⟩
  case round =>
    obtain ⟨k, hk, rfl, rfl, HXr, HBr⟩ := hrel
    clear HXa HBa
    by_cases hlt : k < p.vars.length
    · have k0 : (0 : Int) ≤ k := by omega
      have k1' : (k : Int) < p.vars.length := by omega
      obtain ⟨x, hxk⟩ : ∃ x, p.vars[k]? = some x := ⟨_, List.getElem?_eq_getElem hlt⟩
      obtain ⟨b, o, cap, hv, hb, hc0⟩ := H1.out.get hxk
      simp only [Value.slice.injEq, true_and] at hv
      obtain ⟨rfl, rfl⟩ := hv
      have z0 := (HBr.out.cell (p := ⟨b, o + k, none⟩) hb).trans hc0
      have hbl : b < wr.heap.size := Nat.lt_of_lt_of_le hb HBr.out.size
      have hst := eighths_step hxk
      have htk := eighths_take p.vars (k + 1)
      have HSP := HP.out
      have hbd : p.vars.length + p.arrays.length + eighths (p.vars.take k) + x.size / 8 ≤ 1000000000 := by have := HZ.out; omega
      have HEQ : Keep (p.vars.length + p.arrays.length + eighths (p.vars.take k) + x.size / 8 = p.vars.length + p.arrays.length + eighths (p.vars.take (k + 1))) := ⟨by omega⟩
      have q1 : (x.size : Int).tdiv 8 = ((x.size / 8 : Nat) : Int) := rfl
      have q3 : (x.size : Int) / 8 = ((x.size / 8 : Nat) : Int) := rfl
      clear hc0 hxk hst htk HSP
      generalize x.size / 8 = n1 at *
      generalize p.vars.length + p.arrays.length + eighths (p.vars.take k) = acc at *
      go_wp2_with fail
      go_roundw
      case rel => exact ⟨k + 1, by omega, by go_num, by rw [← HEQ.out]; go_num, HXr, HBr⟩
      case measure => simp [intOf]; omega
    · have hka : k = p.vars.length := by omega
      subst hka
      rw [List.take_length]
      have p1 : wr.cell? ⟨w.heap.size, 1, none⟩ = some (.slice a2 p.arrays.length c2) := by simp [World.cell?, HXr.out]
      have pl : w.heap.size < wr.heap.size := (Array.getElem?_eq_some_iff.1 HXr.out).1
      clear H1 hlt hk k1 k2
      generalize hA : p.vars.length + p.arrays.length + eighths p.vars = A at *
      clear hA
      generalize p.vars.length = vl at *
      generalize wr = wo at *
      go_wp2_with fail
      clear p1 pl
      go_loopw [35, 3] (fun i s wr => ∃ k : Nat, k ≤ p.arrays.length ∧ i = .int .i64 k ∧ s = .int .i64 ((A + eighths ((p.arrays.map (·.1)).take k) : Nat) : Int) ∧ Keep (wr.heap[w.heap.size]? = some (.cells #[.slice a1 vl c1, .slice a2 p.arrays.length c2, .slice a3 p.funcs.length c3] 26 (0, 0))) ∧ Keep (Below w.heap.size w wr)) (fun i _ _ => p.arrays.length - (intOf i).toNat)
      case atStart => exact ⟨0, Nat.zero_le _, rfl, by rw [List.take_zero]; simp [eighths], HXr, HBr⟩
      case round =>
        obtain ⟨k, hk, rfl, rfl, HXr', HBr'⟩ := hrel
        clear HXr HBr
        by_cases hlt : k < p.arrays.length
        · have k0 : (0 : Int) ≤ k := by omega
          have k1' : (k : Int) < p.arrays.length := by omega
          obtain ⟨⟨x, sz⟩, hxk⟩ : ∃ x, p.arrays[k]? = some x := ⟨_, List.getElem?_eq_getElem hlt⟩
          obtain ⟨b, o, cap, hv, hb, hc0, hc1⟩ := H2.out.get hxk
          simp only [Value.slice.injEq, true_and] at hv
          obtain ⟨rfl, rfl⟩ := hv
          have z0 := (HBr'.out.cell (p := ⟨b, o + k * 2, none⟩) hb).trans hc0
          have z1 := (HBr'.out.cell (p := ⟨b, o + k * 2 + 1, none⟩) hb).trans hc1
          have hbl : b < wr.heap.size := Nat.lt_of_lt_of_le hb HBr'.out.size
          have hmk : (p.arrays.map (·.1))[k]? = some x := by rw [List.getElem?_map, hxk]; rfl
          have hst := eighths_step hmk
          have htk := eighths_take (p.arrays.map (·.1)) (k + 1)
          have HSP := HP.out
          have hbd : A + eighths ((p.arrays.map (·.1)).take k) + x.size / 8 ≤ 1000000000 := by have := HZ.out; omega
          have HEQ : Keep (A + eighths ((p.arrays.map (·.1)).take k) + x.size / 8 = A + eighths ((p.arrays.map (·.1)).take (k + 1))) := ⟨by omega⟩
          have q1 : (x.size : Int).tdiv 8 = ((x.size / 8 : Nat) : Int) := rfl
          have q3 : (x.size : Int) / 8 = ((x.size / 8 : Nat) : Int) := rfl
          have hbz : Below wr.heap.size wr (wr.alloc (.cells #[.string x, .int .i64 sz] 68)) := (Below.refl _ _).alloc (Nat.le_refl _) _
          have HBz := Keep.mk (HBr'.out.trans (hbz.mono HBr'.out.size))
          have HXz := Keep.mk ((hbz.block w.heap.size (Array.getElem?_eq_some_iff.1 HXr'.out).1).trans HXr'.out)
          clear hc0 hc1 hxk hst htk HSP hmk hbz
          generalize x.size / 8 = n1 at *
          generalize A + eighths ((p.arrays.map (·.1)).take k) = acc at *
          go_wp2_with fail
          go_roundw
          case rel => exact ⟨k + 1, by omega, by go_num, by rw [← HEQ.out]; go_num, HXz, HBz⟩
          case measure => simp [intOf]; omega
        · have hka : k = p.arrays.length := by omega
          have hkm : k = (p.arrays.map (·.1)).length := by rw [List.length_map]; exact hka
          rw [hkm, List.take_length]
          have p2 : wr.cell? ⟨w.heap.size, 2, none⟩ = some (.slice a3 p.funcs.length c3) := by simp [World.cell?, HXr'.out]
          have pl : w.heap.size < wr.heap.size := (Array.getElem?_eq_some_iff.1 HXr'.out).1
          rw [← hkm]
          subst hka
          clear hkm H2 hlt hk k3 k4
          generalize hA : A + eighths (p.arrays.map (·.1)) = B at *
          clear hA
          generalize p.arrays.length = al at *
          generalize wr = wo' at *
          go_wp2_with fail
          clear p2 pl
          have HBo := Keep.mk (HBr'.out)
          clear HXr' HBr'
          go_loopw [49, 3] (fun i s wr => ∃ k : Nat, k ≤ p.funcs.length ∧ i = .int .i64 k ∧ s = .int .i64 ((B + ((p.funcs.take k).map fuSz).sum : Nat) : Int) ∧ Keep (Below w.heap.size w wr)) (fun i _ _ => p.funcs.length - (intOf i).toNat)
          case atStart => exact ⟨0, Nat.zero_le _, rfl, by rw [List.take_zero]; simp, HBo⟩
          case round =>
            obtain ⟨k, hk, rfl, rfl, HBr⟩ := hrel
            clear HBo
            by_cases hlt : k < p.funcs.length
            · have k0 : (0 : Int) ≤ k := by omega
              have k1 : (k : Int) < p.funcs.length := by omega
              obtain ⟨f, hfk⟩ : ∃ f, p.funcs[k]? = some f := ⟨_, List.getElem?_eq_getElem hlt⟩
              obtain ⟨b, o, cap, up, ul, ub, hv, hb, x0, x1, x2, x3, hS1, hS2, nb, hS3⟩ := H3.out.get hfk
              simp only [Value.slice.injEq, true_and] at hv
              obtain ⟨rfl, rfl⟩ := hv
              have z0 := (HBr.out.cell (p := ⟨b, o + k * 4, none⟩) hb).trans x0
              have z1 := (HBr.out.cell (p := ⟨b, o + k * 4 + 1, none⟩) hb).trans x1
              have z2 := (HBr.out.cell (p := ⟨b, o + k * 4 + 2, none⟩) hb).trans x2
              have z3 := (HBr.out.cell (p := ⟨b, o + k * 4 + 3, none⟩) hb).trans x3
              have hbl : b < wr.heap.size := Nat.lt_of_lt_of_le hb HBr.out.size
              obtain ⟨b1, d1, rfl, _, _⟩ := hS1.len
              obtain ⟨b2, d2, rfl, _, _⟩ := hS2.len
              obtain ⟨b3, d3, rfl, _, _⟩ := hS3.len
              have HS1 := Keep.mk hS1
              have HS2 := Keep.mk hS2
              have HS3 := Keep.mk hS3
              have hst := fsum_step (g := fuSz) hfk
              have htk := fsum_take p.funcs fuSz (k + 1)
              have hfs : fuSz f = 1 + f.name.size / 8 + f.params.length + f.locals.length + szS f.body + eighths (f.params ++ f.locals) := rfl
              have hbnd : B + ((p.funcs.take k).map fuSz).sum + (1 + f.name.size / 8 + f.params.length + f.locals.length + szS f.body + eighths (f.params ++ f.locals)) ≤ 1000000000 := by have := HZ.out; have := HP.out; omega
              have HNX : Keep (B + ((p.funcs.take k).map fuSz).sum + (1 + f.name.size / 8 + f.params.length + f.locals.length + szS f.body) + eighths (f.params ++ f.locals) = B + ((p.funcs.take (k + 1)).map fuSz).sum) := ⟨by omega⟩
              clear x0 x1 x2 x3 hS1 hS2 hS3 hst htk hfs hfk
              go_upto_region 15 with (fail)
              obtain ⟨wz, hwz⟩ : ∃ wz, wz = (wr.alloc (.cells #[.string f.name, .slice b1 f.params.length d1, .slice b2 f.locals.length d2, .slice b3 f.body.length d3] 36)) := ⟨_, rfl⟩
              rw [← hwz]
              have hbz : Below wr.heap.size wr wz := by rw [hwz]; exact (Below.refl _ _).alloc (Nat.le_refl _) _
              have hZ : wz.heap[wr.heap.size]? = some (.cells #[.string f.name, .slice b1 f.params.length d1, .slice b2 f.locals.length d2, .slice b3 f.body.length d3] 36 (0, 0)) := by rw [hwz]; exact heap_alloc_new wr _
              have HBz := Keep.mk (HBr.out.trans (hbz.mono HBr.out.size))
              have HZc := Keep.mk hZ
              have hzl : wr.heap.size < wz.heap.size := (Array.getElem?_eq_some_iff.1 hZ).1
              have HS : Keep (∀ w', Below wz.heap.size wz w' → ((w'.cell? ⟨wr.heap.size, 0, none⟩ = some (.string f.name) ∧ w'.cell? ⟨wr.heap.size, 1, none⟩ = some (.slice b1 f.params.length d1)) ∧ w'.cell? ⟨wr.heap.size, 2, none⟩ = some (.slice b2 f.locals.length d2) ∧ w'.cell? ⟨wr.heap.size, 3, none⟩ = some (.slice b3 f.body.length d3)) ∧ Below wz.heap.size wz w') := ⟨fun w' hb => by
                have e := (hb.block wr.heap.size hzl).trans HZc.out
                exact ⟨⟨⟨by simp [World.cell?, e], by simp [World.cell?, e]⟩, by simp [World.cell?, e], by simp [World.cell?, e]⟩, hb⟩⟩
              have HT : Keep (∀ w', Below wz.heap.size wz w' → (w'.cell? ⟨wr.heap.size, 1, none⟩ = some (.slice b1 f.params.length d1) ∧ w'.cell? ⟨wr.heap.size, 2, none⟩ = some (.slice b2 f.locals.length d2)) ∧ Below wz.heap.size wz w') := ⟨fun w' hb => by
                have e := (hb.block wr.heap.size hzl).trans HZc.out
                exact ⟨⟨by simp [World.cell?, e], by simp [World.cell?, e]⟩, hb⟩⟩
              clear hwz hbz hZ z0 z1 z2 z3 hbl HBr
              have HCT : Keep (∀ wx, Below wz.heap.size wz wx → Calls Try.prog 28 #[.slice b3 f.body.length d3] wx fun e' w' => e' = .returned (.int .i64 (szS f.body : Int)) ∧ Below wx.heap.size wx w') := ⟨fun wx hx => size_any nb f.body _ wx (HS3.out.below (HBz.out.trans (hx.mono HBz.out.size)) (Nat.le_refl _)) (by omega)⟩
              have q1 : (f.name.size : Int).tdiv 8 = ((f.name.size / 8 : Nat) : Int) := rfl
              have q3 : (f.name.size : Int) / 8 = ((f.name.size / 8 : Nat) : Int) := rfl
              generalize f.name.size / 8 = n1 at *
              generalize hs1 : szS f.body = s1 at *
              generalize B + ((p.funcs.take k).map fuSz).sum = acc at *
              clear hs1
              have r0 : IntKind.i64.wrap (n1 : Int) = n1 := IntWalk.i64_in _ (by omega)
              have r1 : IntKind.i64.wrap (1 + (n1 : Int)) = 1 + n1 := IntWalk.i64_in _ (by omega)
              have r2 : IntKind.i64.wrap (1 + (n1 : Int) + f.params.length) = 1 + n1 + f.params.length := IntWalk.i64_in _ (by omega)
              have r3 : IntKind.i64.wrap (1 + (n1 : Int) + f.params.length + f.locals.length) = 1 + n1 + f.params.length + f.locals.length := IntWalk.i64_in _ (by omega)
              have r4 : IntKind.i64.wrap (1 + (n1 : Int) + f.params.length + f.locals.length + s1) = 1 + n1 + f.params.length + f.locals.length + s1 := IntWalk.i64_in _ (by omega)
              have r5 : IntKind.i64.wrap ((acc : Int) + (1 + (n1 : Int) + f.params.length + f.locals.length + s1)) = acc + (1 + n1 + f.params.length + f.locals.length + s1) := IntWalk.i64_in _ (by omega)
              go_cut [3] from 53 to 72 (fun v wx => v = .int .i64 ((acc + (1 + n1 + f.params.length + f.locals.length + s1) : Nat) : Int) ∧ Below wz.heap.size wz wx)
              case first =>
                clear HS1 HS2 HS3 HT HZc
                go_region_held3 (fun w' => ((w'.cell? ⟨wr.heap.size, 0, none⟩ = some (.string f.name) ∧ w'.cell? ⟨wr.heap.size, 1, none⟩ = some (.slice b1 f.params.length d1)) ∧ w'.cell? ⟨wr.heap.size, 2, none⟩ = some (.slice b2 f.locals.length d2) ∧ w'.cell? ⟨wr.heap.size, 3, none⟩ = some (.slice b3 f.body.length d3)) ∧ Below wz.heap.size wz w')
                  (first | with_reducible exact HS.out _ (Below.refl wz.heap.size wz).drew | with_reducible exact HS.out _ (Below.refl wz.heap.size wz) | with_reducible exact HS.out _ (held_onS hb4 (And.right (by assumption))) | with_reducible assumption)
                  ((go_at_call 28; (with_reducible refine (HCT.out _ ?_).mono ?_); (exact And.right (by assumption)); rintro e w4 ⟨rfl, hb4⟩))
                all_goals (go_wp2; go_meet; exact ⟨by go_num, And.right (by assumption)⟩)
              case rest =>
              obtain ⟨rfl, hbc⟩ := hcut
              clear r0 r1 r2 r3 r4 r5 q1 q3 HCT HS HS3
              have HBc := Keep.mk (HBz.out.trans (hbc.mono HBz.out.size))
              have HSc : Keep (∀ w', Below wc.heap.size wc w' → (w'.cell? ⟨wr.heap.size, 1, none⟩ = some (.slice b1 f.params.length d1) ∧ w'.cell? ⟨wr.heap.size, 2, none⟩ = some (.slice b2 f.locals.length d2)) ∧ Below wc.heap.size wc w') := ⟨fun w' h => ⟨(HT.out w' (hbc.trans (h.mono hbc.size))).1, h⟩⟩
              have hA0 : (wc.alloc (.cells #[] 9)).drew.ownsRow wc.heap.size 9 1 (.slice (some ⟨wc.heap.size, 0, none⟩) 0 0) 0 [] := World.ownsRow_made (base := wc.heap.size) (e := 9) (size := 1) wc #[] 0 (Nat.le_refl _) (by decide) rfl
              have HA0 := Keep.mk hA0
              have hb0 : Below wc.heap.size wc (wc.alloc (.cells #[] 9)).drew := ((Below.refl _ _).alloc (Nat.le_refl _) _).drew
              have HBA0 := Keep.mk hb0
              clear hA0 hb0 HT hbc
              go_upto_region 16 with (fail)
              go_region_held3 (fun w' => (w'.cell? ⟨wr.heap.size, 1, none⟩ = some (.slice b1 f.params.length d1) ∧ w'.cell? ⟨wr.heap.size, 2, none⟩ = some (.slice b2 f.locals.length d2)) ∧ Below wc.heap.size wc w')
                (first | with_reducible exact HSc.out _ (Below.refl wc.heap.size wc).drew | with_reducible exact HSc.out _ (Below.refl wc.heap.size wc) | with_reducible exact HSc.out _ HBA0.out | with_reducible exact HSc.out _ H5.out.2 | with_reducible exact HSc.out _ H6.out.2 | with_reducible assumption)
                (first
                  | (rw [if_pos (by rfl)]; (refine wp_append_slc2 (.tmp 72) (.tmp 74) 22 rfl wc.heap.size 9 i0 (.string ⟨#[]⟩) 1 16 Try.underlying22 hi hz0 hz1 hz2 rfl (by decide) _ 0 [] rfl HA0.out _ f.params.length (strCells f.params) rfl (HS1.out.slc.below (HBc.out.trans (HBA0.out.mono HBc.out.size)) (Nat.le_refl _)) (strCells_one _) (by unfold maxLen; omega) (by omega) HBA0.out.size ?_); intro v5 w5 hown5 hg5 hv5; have H5 := Keep.mk (And.intro hown5 (below_append HBA0.out HBA0.out.size HA0.out (Nat.le_refl _) hg5)); clear hown5 hg5 hv5)
                  | (rw [if_pos (by rfl)]; (refine wp_append_slc2 (.tmp 75) (.tmp 77) 22 rfl wc.heap.size 9 i0 (.string ⟨#[]⟩) 1 16 Try.underlying22 hi hz0 hz1 hz2 rfl (by decide) _ (0 + f.params.length) ([] ++ strCells f.params) rfl H5.out.1 _ f.locals.length (strCells f.locals) rfl (HS2.out.slc.below (HBc.out.trans (H5.out.2.mono HBc.out.size)) (Nat.le_refl _)) (strCells_one _) (by unfold maxLen; omega) (by omega) H5.out.2.size ?_); intro v6 w6 hown6 hg6 hv6; obtain ⟨a6, c6, rfl⟩ := ownsRow_slice hown6; have H6 := Keep.mk (And.intro hown6 (below_append H5.out.2 H5.out.2.size H5.out.1 (Nat.le_refl _) hg6)); clear hown6 hg6 hv6))
              have HB6 := Keep.mk (HBc.out.trans (H6.out.2.mono HBc.out.size))
              have hJ : OwnStrs wc.heap.size w6 (.slice a6 (0 + f.params.length + f.locals.length) c6) (f.params ++ f.locals) := by
                unfold OwnStrs
                rw [strCells_append, List.length_append]
                simpa using H6.out.1
              have HJ := Keep.mk hJ.strs
              clear hJ HSc HA0 HBA0 H5 H6 HS1 HS2 HBc HBz HZc
              obtain ⟨L, hL⟩ : ∃ L, L = f.params ++ f.locals := ⟨_, rfl⟩
              rw [← hL] at HJ HNX
              have e1 : 0 + f.params.length + f.locals.length = L.length := by rw [hL, List.length_append]; omega
              have e2 : (f.params.length : Int) + (f.locals.length : Int) = (L.length : Int) := by rw [hL, List.length_append]; omega
              have e4 : (acc : Int) + (1 + (n1 : Int) + (f.params.length : Int) + (f.locals.length : Int) + (s1 : Int)) = ((acc + (1 + n1 + f.params.length + f.locals.length + s1) : Nat) : Int) := by omega
              have hLb : acc + (1 + n1 + f.params.length + f.locals.length + s1) + eighths L ≤ 1000000000 := by rw [hL]; omega
              have hLz : L.length ≤ 1000000000 := by omega
              have HZ0 := Keep.mk (And.intro hlt hk)
              rw [e1, e2, e4]
              rw [e1] at HJ
              clear e1 e2 e4 hL hbnd hzl
              generalize acc + (1 + n1 + f.params.length + f.locals.length + s1) = ac at *
              generalize wr = wo'' at *
              go_wp2_with fail
              go_loopw [80, 3] (fun i s wr => ∃ j : Nat, j ≤ L.length ∧ i = .int .i64 j ∧ s = .int .i64 ((ac + eighths (L.take j) : Nat) : Int) ∧ Keep (Below w.heap.size w wr) ∧ Keep (Strs wr (.slice a6 L.length c6) L)) (fun i _ _ => L.length - (intOf i).toNat)
              case atStart => exact ⟨0, Nat.zero_le _, rfl, by rw [List.take_zero]; simp [eighths], HB6, HJ⟩
              case round =>
                obtain ⟨j, hj, rfl, rfl, HBr, HJr⟩ := hrel
                clear HB6 HJ
                by_cases hlj : j < L.length
                · have j0 : (0 : Int) ≤ j := by omega
                  have j1 : (j : Int) < L.length := by omega
                  obtain ⟨x, hxj⟩ : ∃ x, L[j]? = some x := ⟨_, List.getElem?_eq_getElem hlj⟩
                  obtain ⟨b', o', cap', hua, hb', z0⟩ := HJr.out.get hxj
                  simp only [Value.slice.injEq, true_and] at hua
                  obtain ⟨rfl, rfl⟩ := hua
                  have hst := eighths_step hxj
                  have htk := eighths_take L (j + 1)
                  have hbd : ac + eighths (L.take j) + x.size / 8 ≤ 1000000000 := by omega
                  have HEQ : Keep (ac + eighths (L.take j) + x.size / 8 = ac + eighths (L.take (j + 1))) := ⟨by omega⟩
                  have q1 : (x.size : Int).tdiv 8 = ((x.size / 8 : Nat) : Int) := rfl
                  have q3 : (x.size : Int) / 8 = ((x.size / 8 : Nat) : Int) := rfl
                  clear hxj hst htk
                  generalize x.size / 8 = n2 at *
                  generalize ac + eighths (L.take j) = acc' at *
                  go_wp2_with fail
                  go_roundw
                  case rel => exact ⟨j + 1, by omega, by go_num, by rw [← HEQ.out]; go_num, HBr, HJr⟩
                  case measure => simp [intOf]; omega
                · have hja : j = L.length := by omega
                  subst hja
                  rw [List.take_length, HNX.out]
                  go_wp2_with fail
                  go_roundw
                  case rel => exact ⟨k + 1, by omega, by go_num, rfl, HBr⟩
                  case measure => simp [intOf]; omega
            · have hka : k = p.funcs.length := by omega
              subst hka
              rw [List.take_length, ← HP.out]
              go_wp2_with fail
              go_ret
              exact ⟨rfl, HBr.out⟩
end Go.Proofs.Ytgimdbflpdmlmaa
