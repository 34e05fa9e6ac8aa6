/- The reference's Check: what the program's check comes to. Condition: a program of size at most 400. -/
import Derived.Test.YtgimdbflpdmlmaaRuCheckMath
import Derived.Test.YtgimdbflpdmlmaaRuMeasure
import Derived.Test.YtgimdbflpdmlmaaCkRefScalars
import Derived.Deep.QuietTactic
namespace Go.Proofs.Ytgimdbflpdmlmaa
set_option maxRecDepth 100000
open Go.RowKit Go.Shelf Go.Proofs.Ytgimdbflpdmlmaa.Ck

theorem PrAt.belowR {w w' : World} {vs rs fs : Value} {p : Pr} (h : PrAt w vs rs fs p) (hb : Below w.heap.size w w') : PrAt w' vs rs fs p := ⟨h.1.below hb (Nat.le_refl _), h.2.1.below hb (Nat.le_refl _), h.2.2.below hb (Nat.le_refl _)⟩
set_option maxHeartbeats 64000000 in
theorem rcheck_any {w : World} {vs rs fs : Value} {p : Pr} (hp : PrAt w vs rs fs p) (hz : sizeP p ≤ 400) :
    Calls Try.prog 14 #[.agg #[vs, rs, fs]] w fun e w' => e = .returned (.tuple #[.string (check p).1, .int .i64 (check p).2]) ∧ Below w.heap.size w w' := by
  have HP0 := Keep.mk hp
  obtain ⟨h1, h2, h3⟩ := hp
  obtain ⟨a1, c1, rfl, k1, k2⟩ := h1.len
  obtain ⟨a2, c2, rfl, k3, k4⟩ := h2.len
  obtain ⟨a3, c3, rfl, k5, k6⟩ := h3.len
  unfold maxLen at k2 k4 k6
  have HZ := Keep.mk hz
  have HFIT := Keep.mk (fits_of_size hz)
  have hlens : p.vars.length ≤ 400 ∧ p.arrays.length ≤ 400 ∧ p.funcs.length ≤ 400 := by
    unfold sizeP at hz
    have h4 : ∀ l : List Fu, l.length ≤ (l.map fuSz).sum := by
      intro l
      induction l with
      | nil => simp
      | cons f l ih =>
        have h3 : fuSz f = 1 + f.name.size / 8 + f.params.length + f.locals.length + szS f.body + eighths (f.params ++ f.locals) := rfl
        simp only [List.map_cons, List.sum_cons, List.length_cons]
        omega
    have := h4 p.funcs
    omega
  obtain ⟨hl1, hl2, hl3⟩ := hlens
  obtain ⟨ck, hck⟩ : ∃ ck, ck = check p := ⟨_, rfl⟩
  rw [← hck]
  have HCK := Keep.mk hck
  clear h1 h2 h3 hz hck
  go_enter Try.func14, Try.ntmps14
  have hX := heap_alloc_new w (.cells #[.slice a1 p.vars.length c1, .slice a2 p.arrays.length c2, .slice a3 p.funcs.length c3] 26)
  have hb0 : Below w.heap.size w (w.alloc (.cells #[.slice a1 p.vars.length c1, .slice a2 p.arrays.length c2, .slice a3 p.funcs.length c3] 26)) := (Below.refl _ _).alloc (Nat.le_refl _) _
  have hz0' : (w.alloc (.cells #[.slice a1 p.vars.length c1, .slice a2 p.arrays.length c2, .slice a3 p.funcs.length c3] 26)).heap.size = w.heap.size + 1 := World.size_alloc ..
  go_upto_region 1 with (fail)
  generalize (w.alloc (.cells #[.slice a1 p.vars.length c1, .slice a2 p.arrays.length c2, .slice a3 p.funcs.length c3] 26)) = w0 at *
  have HB0 := Keep.mk hb0
  have HP : Keep (∀ w', Below w0.heap.size w0 w' → PrAt w' (.slice a1 p.vars.length c1) (.slice a2 p.arrays.length c2) (.slice a3 p.funcs.length c3) p) := ⟨fun w' hb => HP0.out.belowR (hb0.trans (hb.mono hb0.size))⟩
  have HX : Keep (∀ w', Below w0.heap.size w0 w' → (w'.cell? ⟨w.heap.size, 0, none⟩ = some (.slice a1 p.vars.length c1) ∧ w'.cell? ⟨w.heap.size, 1, none⟩ = some (.slice a2 p.arrays.length c2)) ∧ w'.cell? ⟨w.heap.size, 2, none⟩ = some (.slice a3 p.funcs.length c3) ∧ w.heap.size < w'.heap.size) := ⟨fun w' hb => by
    have e := (hb.block w.heap.size (by omega)).trans hX
    exact ⟨⟨by simp [World.cell?, e], by simp [World.cell?, e]⟩, by simp [World.cell?, e], (Array.getElem?_eq_some_iff.1 e).1⟩⟩
  clear hX hb0 hz0' HP0
  have hz1' : (w0.alloc (.cells #[] 9)).heap.size = w0.heap.size + 1 := World.size_alloc ..
  have HS4 : Keep (OwnStrs w0.heap.size ((w0.alloc (.cells #[] 9)).alloc (.cells #[] 9)) (.slice (some ⟨w0.heap.size, 0, none⟩) 0 0) []) := ⟨World.ownsRow.alloc (World.ownsRow_made (base := w0.heap.size) (e := 9) (size := 1) w0 #[] 0 (Nat.le_refl _) (by decide) rfl) _⟩
  have HS5 : Keep (OwnStrs w0.heap.size ((w0.alloc (.cells #[] 9)).alloc (.cells #[] 9)) (.slice (some ⟨w0.heap.size + 1, 0, none⟩) 0 0) []) := ⟨by
    have := World.ownsRow_made (base := w0.heap.size) (e := 9) (size := 1) (w0.alloc (.cells #[] 9)) #[] 0 (by omega) (by decide) rfl
    rw [hz1'] at this
    exact this⟩
  have HB1 : Keep (Below w0.heap.size w0 ((w0.alloc (.cells #[] 9)).alloc (.cells #[] 9))) := ⟨((Below.refl _ _).alloc (Nat.le_refl _) _).alloc (by simp) _⟩
  have HSZ1 : Keep (((w0.alloc (.cells #[] 9)).alloc (.cells #[] 9)).heap.size = w0.heap.size + 2) := ⟨by simp⟩
  clear hz1'
  go_upto_region 2 with (fail)
  generalize ((w0.alloc (.cells #[] 9)).alloc (.cells #[] 9)) = w1 at *
  obtain ⟨⟨x0, x1⟩, x2, xl⟩ := HX.out w1 HB1.out
  have HRO : Keep (RowOn w1 w1 (some w0.heap.size) (.slice (some ⟨w0.heap.size, 0, none⟩) 0 0)) := ⟨World.grownBy.refl w1 _, fun q hq => .inr hq⟩
  go_wp2_with fail
  clear x0 x1 x2 xl
  go_loopw [30, 4] (fun i s4 wr => ∃ k : Nat, k ≤ p.arrays.length ∧ i = .int .i64 k ∧ Keep (OwnStrs w0.heap.size wr s4 ((p.arrays.take k).map (·.1))) ∧ Keep (RowOn w1 wr (some w0.heap.size) s4)) (fun i _ _ => p.arrays.length - (intOf i).toNat)
  case atStart => exact ⟨0, Nat.zero_le _, rfl, ⟨by rw [List.take_zero]; exact HS4.out⟩, HRO⟩
  case round =>
    clear HRO HS4
    obtain ⟨k, hk, rfl, HS4, HRO⟩ := hrel
    have HB := Keep.mk (HB1.out.grown HRO.out.g HB1.out.size (fun q hq => by cases hq; exact Nat.le_refl _))
    obtain ⟨sa4, sc4, rfl⟩ := ownsRow_slice HS4.out
    by_cases hlt : k < p.arrays.length
    · have k0 : (0 : Int) ≤ k := by omega
      have k1 : (k : Int) < p.arrays.length := by omega
      obtain ⟨⟨x, s⟩, hxk⟩ : ∃ t, p.arrays[k]? = some t := ⟨_, List.getElem?_eq_getElem hlt⟩
      obtain ⟨b, o, cap, hv, hb, z0, z1⟩ := (HP.out wr HB.out).2.1.get hxk
      simp only [Value.slice.injEq, true_and] at hv
      obtain ⟨rfl, rfl⟩ := hv
      have HNX : Keep ((p.arrays.take (k + 1)).map (·.1) = (p.arrays.take k).map (·.1) ++ [x]) := ⟨by rw [List.take_add_one, hxk]; simp⟩
      have hbz : Below wr.heap.size wr (wr.alloc (.cells #[.string x, .int .i64 s] 68)) := (Below.refl _ _).alloc (Nat.le_refl _) _
      have HRO2 := Keep.mk ((HRO.out.later hbz).later ((Below.refl _ _).alloc (Nat.le_refl _) (.cells #[.string x] 9)))
      have HS42 : Keep (OwnStrs w0.heap.size ((wr.alloc (.cells #[.string x, .int .i64 s] 68)).alloc (.cells #[.string x] 9)) (.slice sa4 ((p.arrays.take k).map (·.1)).length sc4) ((p.arrays.take k).map (·.1))) := ⟨(HS4.out.alloc _).alloc _⟩
      have HLN : Keep (((p.arrays.take k).map (·.1)).length + [x].length ≤ 1000000) := ⟨by rw [List.length_map, List.length_take, List.length_singleton]; omega⟩
      have HWS : Keep (w0.heap.size ≤ wr.heap.size) := ⟨HB.out.size⟩
      clear hxk hbz HS4
      generalize (p.arrays.take k).map (·.1) = L at *
      go_wp2_with (at_builtin; go_must (refine wpList_append_gstrs rfl _ _ rfl rfl HS42.out rfl (by have h := Strs.made (wr.alloc (.cells #[.string x, .int .i64 s] 68)) [x] 9 (show (1 : Nat) ≤ maxLen by decide); rw [World.size_alloc] at h; exact h) HLN.out (by simp; have := HWS.out; omega) ?_); intro v6 w6 hO6 hg6 hv6; have H6 := Keep.mk (And.intro hO6 (RowOn.put HRO2.out hg6 hv6)); clear hO6 hg6 hv6)
      go_roundw
      case rel => exact ⟨k + 1, by omega, by go_num, ⟨by rw [HNX.out]; exact H6.out.1⟩, ⟨H6.out.2⟩⟩
      case measure => simp [intOf]; omega
    · obtain rfl : k = p.arrays.length := by omega
      rw [List.take_length] at HS4 HRO ⊢
      have HS5b : Keep (OwnStrs w0.heap.size wr (.slice (some ⟨w0.heap.size + 1, 0, none⟩) 0 0) []) := ⟨World.ownsRow.kept HS5.out HRO.out.g (.inr (by simp [Value.ownBlock]))⟩
      have HO4 : Keep (∀ q, Value.ownBlock (.slice sa4 (p.arrays.map (·.1)).length sc4) = some q → q ≠ w0.heap.size + 1) := ⟨fun q hq e => by
        have := HSZ1.out
        rcases HRO.out.o q hq with h | h
        · omega
        · cases h; omega⟩
      have hla : (p.arrays.map (·.1)).length ≤ 400 := by rw [List.length_map]; exact hl2
      obtain ⟨AN, hAN⟩ : ∃ AN, AN = p.arrays.map (·.1) := ⟨_, rfl⟩
      rw [← hAN] at HS4 HO4 hla ⊢
      have HAN := Keep.mk hAN
      clear hAN HS5 HRO HSZ1 HB1 hlt hk
      generalize wr = w3 at *
      obtain ⟨⟨x0, x1⟩, x2, xl⟩ := HX.out w3 HB.out
      have HRO : Keep (RowOn w3 w3 (some (w0.heap.size + 1)) (.slice (some ⟨w0.heap.size + 1, 0, none⟩) 0 0)) := ⟨World.grownBy.refl w3 _, fun q hq => .inr hq⟩
      go_wp2_with fail
      clear x0 x1 x2 xl
      go_loopw [43, 5] (fun i s5 wr => ∃ k : Nat, k ≤ p.funcs.length ∧ i = .int .i64 k ∧ Keep (OwnStrs w0.heap.size wr s5 ((p.funcs.take k).map Fu.name)) ∧ Keep (RowOn w3 wr (some (w0.heap.size + 1)) s5)) (fun i _ _ => p.funcs.length - (intOf i).toNat)
      case atStart => exact ⟨0, Nat.zero_le _, rfl, ⟨by rw [List.take_zero]; exact HS5b.out⟩, HRO⟩
      case round =>
        clear HRO HS5b
        obtain ⟨k, hk, rfl, HS5, HRO⟩ := hrel
        have HBr := Keep.mk (HB.out.grown HRO.out.g HB.out.size (fun q hq => by cases hq; exact Nat.le_succ _))
        obtain ⟨sa5, sc5, rfl⟩ := ownsRow_slice HS5.out
        by_cases hlt : k < p.funcs.length
        · have k0 : (0 : Int) ≤ k := by omega
          have k1 : (k : Int) < p.funcs.length := by omega
          obtain ⟨f, hfk⟩ : ∃ f, p.funcs[k]? = some f := ⟨_, List.getElem?_eq_getElem hlt⟩
          obtain ⟨b, o, cap, up, ul, ub, hv, hb, z0, z1, z2, z3, hS1, hS2, nb, hS3⟩ := (HP.out wr HBr.out).2.2.get hfk
          simp only [Value.slice.injEq, true_and] at hv
          obtain ⟨rfl, rfl⟩ := hv
          obtain ⟨b1, d1, rfl, _, _⟩ := hS1.len
          obtain ⟨b2, d2, rfl, _, _⟩ := hS2.len
          obtain ⟨b3, d3, rfl, _, _⟩ := hS3.len
          have HNX : Keep ((p.funcs.take (k + 1)).map Fu.name = (p.funcs.take k).map Fu.name ++ [f.name]) := ⟨by rw [List.take_add_one, hfk]; simp⟩
          have hbz : Below wr.heap.size wr (wr.alloc (.cells #[.string f.name, .slice b1 f.params.length d1, .slice b2 f.locals.length d2, .slice b3 f.body.length d3] 36)) := (Below.refl _ _).alloc (Nat.le_refl _) _
          have HRO2 := Keep.mk ((HRO.out.later hbz).later ((Below.refl _ _).alloc (Nat.le_refl _) (.cells #[.string f.name] 9)))
          have HS52 : Keep (OwnStrs w0.heap.size ((wr.alloc (.cells #[.string f.name, .slice b1 f.params.length d1, .slice b2 f.locals.length d2, .slice b3 f.body.length d3] 36)).alloc (.cells #[.string f.name] 9)) (.slice sa5 ((p.funcs.take k).map Fu.name).length sc5) ((p.funcs.take k).map Fu.name)) := ⟨(HS5.out.alloc _).alloc _⟩
          have HLN : Keep (((p.funcs.take k).map Fu.name).length + [f.name].length ≤ 1000000) := ⟨by rw [List.length_map, List.length_take, List.length_singleton]; omega⟩
          have HWS : Keep (w0.heap.size ≤ wr.heap.size) := ⟨HBr.out.size⟩
          clear hfk hbz HS5 hS1 hS2 hS3
          generalize (p.funcs.take k).map Fu.name = L at *
          go_wp2_with (at_builtin; go_must (refine wpList_append_gstrs rfl _ _ rfl rfl HS52.out rfl (by have h := Strs.made (wr.alloc (.cells #[.string f.name, .slice b1 f.params.length d1, .slice b2 f.locals.length d2, .slice b3 f.body.length d3] 36)) [f.name] 9 (show (1 : Nat) ≤ maxLen by decide); rw [World.size_alloc] at h; exact h) HLN.out (by simp; have := HWS.out; omega) ?_); intro v6 w6 hO6 hg6 hv6; have H6 := Keep.mk (And.intro hO6 (RowOn.put HRO2.out hg6 hv6)); clear hO6 hg6 hv6)
          go_roundw
          case rel => exact ⟨k + 1, by omega, by go_num, ⟨by rw [HNX.out]; exact H6.out.1⟩, ⟨H6.out.2⟩⟩
          case measure => simp [intOf]; omega
        · obtain rfl : k = p.funcs.length := by omega
          rw [List.take_length] at HS5 ⊢
          have HA : Keep (OwnStrs w0.heap.size wr (.slice sa4 AN.length sc4) AN) := ⟨World.ownsRow.kept HS4.out HRO.out.g (by
            cases hq : Value.ownBlock (.slice sa4 AN.length sc4) with
            | none => exact .inl rfl
            | some q => exact .inr (fun e => by cases e; exact HO4.out _ hq rfl))⟩
          obtain ⟨FN, hFN⟩ : ∃ FN, FN = p.funcs.map Fu.name := ⟨_, rfl⟩
          have hlf : FN.length ≤ 400 := by rw [hFN, List.length_map]; exact hl3
          rw [← hFN] at HS5 ⊢
          have HFN := Keep.mk hFN
          have HA2 := Keep.mk HA.out.strs
          have HF2 := Keep.mk HS5.out.strs
          clear hFN HS5 HRO HO4 HS4 HA hlt hk HB
          generalize wr = w4 at *
          obtain ⟨⟨x0, x1⟩, x2, xl⟩ := HX.out w4 HBr.out
          have HA0 : Keep (OwnStrs w4.heap.size (w4.alloc (.cells #[] 9)) (.slice (some ⟨w4.heap.size, 0, none⟩) 0 0) []) := ⟨World.ownsRow_made (base := w4.heap.size) (e := 9) (size := 1) w4 #[] 0 (Nat.le_refl _) (by decide) rfl⟩
          have HBA : Keep (Below w4.heap.size w4 (w4.alloc (.cells #[] 9))) := ⟨(Below.refl _ _).alloc (Nat.le_refl _) _⟩
          have HVS := Keep.mk (HP.out w4 HBr.out).1
          obtain ⟨L1, hL1⟩ : ∃ L1, L1 = ([] : List ByteArray) ++ p.vars := ⟨_, rfl⟩
          obtain ⟨L2, hL2⟩ : ∃ L2, L2 = L1 ++ AN := ⟨_, rfl⟩
          obtain ⟨L3, hL3⟩ : ∃ L3, L3 = L2 ++ FN := ⟨_, rfl⟩
          have HLL : Keep ((([] : List ByteArray).length + p.vars.length ≤ 1000000 ∧ L1.length + AN.length ≤ 1000000) ∧ L2.length + FN.length ≤ 1000000 ∧ L3.length ≤ 1200) := ⟨by
            rw [hL3, hL2, hL1]
            simp only [List.length_append, List.length_nil]
            omega⟩
          have HL := Keep.mk (And.intro hL1 (And.intro hL2 hL3))
          have HALL : Keep (L3 = allN p) := ⟨by rw [hL3, hL2, hL1, HAN.out, HFN.out]; rfl⟩
          clear hL1 hL2 hL3
          go_upto_region 12 with (fail)
          go_wp2_with (at_builtin; first
            | ((refine wpList_append_ownstrs rfl _ _ rfl rfl HA0.out rfl (HVS.out.below HBA.out (Nat.le_refl _)) HLL.out.1.1 (by simp) ?_); intro v57 w57 hO57 hB57; rw [← HL.out.1] at hO57; have H57 := Keep.mk (And.intro hO57 (HBA.out.trans hB57)); clear hO57 hB57; obtain ⟨a57, c57, rfl⟩ := ownsRow_slice H57.out.1)
            | ((refine wpList_append_ownstrs rfl _ _ rfl rfl H57.out.1 rfl (HA2.out.below H57.out.2 (Nat.le_refl _)) HLL.out.1.2 H57.out.2.size ?_); intro v59 w59 hO59 hB59; rw [← HL.out.2.1] at hO59; have H59 := Keep.mk (And.intro hO59 (H57.out.2.trans hB59)); clear hO59 hB59; obtain ⟨a59, c59, rfl⟩ := ownsRow_slice H59.out.1)
            | ((refine wpList_append_ownstrs rfl _ _ rfl rfl H59.out.1 rfl (HF2.out.below H59.out.2 (Nat.le_refl _)) HLL.out.2.1 H59.out.2.size ?_); intro v61 w61 hO61 hB61; rw [← HL.out.2.2] at hO61; have H61 := Keep.mk (And.intro hO61 (H59.out.2.trans hB61)); clear hO61 hB61; obtain ⟨a61, c61, rfl⟩ := ownsRow_slice H61.out.1))
          have HB61 := Keep.mk (HBr.out.trans (H61.out.2.mono HBr.out.size))
          obtain ⟨r, hr⟩ : ∃ r, r = globalsC [] (allN p) := ⟨_, rfl⟩
          have HR := Keep.mk hr
          obtain ⟨e1, e2, hpr⟩ : ∃ e1 e2, pr r = (e1, e2) := ⟨_, _, rfl⟩
          have HPRG := Keep.mk (program_names p)
          rw [← hr] at HPRG
          have HFR : Keep (Calls Try.prog 31 #[.slice none 0 0, .slice a61 L3.length c61] w61 fun e w' => (∃ v, e = .returned (.tuple #[v, .agg #[.string e1, .int .i64 e2]]) ∧ (∃ a n c, v = .slice a n c) ∧ ∀ k, r = .ok k → Strs w' v k) ∧ Below w61.heap.size w61 w') := ⟨by
            have hn : ∀ x ∈ allN p, x.size ≤ maxLen := fun x hx => by
              have h : x.size ≤ 1000000 := by
                refine HFIT.out.names x ?_
                unfold allN at hx
                simp only [List.mem_append, List.mem_map] at hx
                rcases hx with (hx | hx) | ⟨f, hf, rfl⟩
                · exact .inl hx
                · exact .inr (.inl (List.mem_map.2 hx))
                · exact .inr (.inr ⟨f, hf, .inl rfl⟩)
              unfold maxLen
              omega
            have h := fresh_any (w := w61) (known := []) (l := allN p) (Strs.nil w61) (v2 := .slice a61 L3.length c61) (by rw [← HALL.out]; exact H61.out.1.strs) hn (by rw [← HALL.out]; have := HLL.out; simp only [List.length_nil]; omega)
            rw [← HR.out] at h
            unfold FreshEnd at h
            rw [hpr] at h
            unfold probV at h
            exact h⟩
          have HPR := Keep.mk hpr
          have HFNA := Keep.mk (And.intro HA2.out HF2.out)
          have HLOW : Keep (Below w4.heap.size w4 w61) := ⟨H61.out.2⟩
          clear hr hpr x0 x1 x2 xl HA0 HBA HVS H57 H59 H61 HA2 HF2 HL
          refine HFR.out.mono ?_
          rintro _ w62 ⟨⟨v62, rfl, ⟨na, nn, nc, rfl⟩, hk62⟩, hb62⟩
          have HK62 := Keep.mk hk62
          have HB62 := Keep.mk (HB61.out.trans (hb62.mono HB61.out.size))
          have HLOW62 := Keep.mk (HLOW.out.trans (hb62.mono HLOW.out.size))
          clear hk62 hb62 HFR HB61 HLOW
          obtain ⟨⟨x0, x1⟩, x2, xl⟩ := HX.out w62 HB62.out
          by_cases he2 : e2 = 0
          · obtain ⟨g, hg⟩ := (prob_nz (show NZ r by rw [HR.out]; exact nz_globals _ _)).1 (by rw [HPR.out]; exact he2)
            obtain ⟨hga, hprog⟩ := HPRG.out.2 g hg
            have hgs := HK62.out g hg
            have HND := Keep.mk (allN_nodup (p := p) (by rw [← HR.out]; exact hg))
            rw [hga, ← HALL.out] at hgs
            obtain ⟨na', nc', hv, hnc1, hnc2⟩ := hgs.len
            simp only [Value.slice.injEq] at hv
            obtain ⟨rfl, rfl, rfl⟩ := hv
            have HGS := Keep.mk hgs
            have HPROG := Keep.mk hprog
            have f1 : (e2 != 0) = false := by simp [he2]
            clear hgs hprog hga hg HK62 HPRG HPR HR he2
            have hb5 : Below w62.heap.size w62 (w62.alloc (.cells #[.string e1, .int .i64 e2] 79)) := (Below.refl _ _).alloc (Nat.le_refl _) _
            have HB5 := Keep.mk hb5
            go_wp2_with fail
            clear x0 x1 x2 xl f1 hb5
            generalize (w62.alloc (.cells #[.string e1, .int .i64 e2] 79)) = w5 at *
            have HB50 := Keep.mk (HB62.out.trans (HB5.out.mono HB62.out.size))
            have HLOW5 := Keep.mk (HLOW62.out.trans (HB5.out.mono HLOW62.out.size))
            have HW5 := Keep.mk (Below.refl w5.heap.size w5)
            go_loopw [75, 12] (fun i s wr => ∃ (k : Nat) (t : Int), k ≤ p.arrays.length ∧ i = .int .i64 k ∧ s = .int .i64 t ∧ 0 ≤ t ∧ t ≤ 150000 ∧ Keep (arraysC 0 (p.arrays.take k) = .ok t) ∧ Keep (Below w5.heap.size w5 wr)) (fun i _ _ => p.arrays.length - (intOf i).toNat)
            case atStart => exact ⟨0, 0, Nat.zero_le _, rfl, rfl, Int.le_refl _, by decide, ⟨by rw [List.take_zero, arraysC]⟩, HW5⟩
            case round =>
              clear HW5
              obtain ⟨k, tt, hk, rfl, rfl, ht0, ht1, HT, HBw⟩ := hrel
              have HBr2 := Keep.mk (HB50.out.trans (HBw.out.mono HB50.out.size))
              by_cases hlt : k < p.arrays.length
              · have k0 : (0 : Int) ≤ k := by omega
                have k1 : (k : Int) < p.arrays.length := by omega
                obtain ⟨⟨x, s⟩, hxk⟩ : ∃ t, p.arrays[k]? = some t := ⟨_, List.getElem?_eq_getElem hlt⟩
                obtain ⟨b, o, cap, hv, hb, z0, z1⟩ := (HP.out wr HBr2.out).2.1.get hxk
                simp only [Value.slice.injEq, true_and] at hv
                obtain ⟨rfl, rfl⟩ := hv
                have HST := Keep.mk (arraysC_step HT.out hxk)
                clear hxk
                by_cases hs : s ≤ 0
                · have HE : Keep (ck = (x, 2)) := ⟨by
                    rw [HCK.out]
                    refine check_bad (bind_no HPROG.out (HST.out.2 _ ?_))
                    unfold req
                    rw [if_neg (by simp; omega)]
                    rfl⟩
                  go_wp2_with fail
                  go_ret2
                  exact ⟨by rw [HE.out]; rfl, HB0.out.trans ((HBr2.out.alloc HBr2.out.size _).mono HB0.out.size)⟩
                · have s1 : IntKind.i64.wrap (150000 - tt) = 150000 - tt := IntWalk.i64_in _ (by omega)
                  by_cases hs2 : 150000 - tt < s
                  · have HE : Keep (ck = (x, 6)) := ⟨by
                      rw [HCK.out]
                      refine check_bad (bind_no HPROG.out (HST.out.2 _ ?_))
                      unfold req
                      rw [if_pos (by simp; omega), if_neg (by simp; omega)]
                      rfl⟩
                    go_wp2_with fail
                    go_ret2
                    exact ⟨by rw [HE.out]; rfl, HB0.out.trans ((HBr2.out.alloc HBr2.out.size _).mono HB0.out.size)⟩
                  · have s2 : IntKind.i64.wrap (tt + s) = tt + s := IntWalk.i64_in _ (by omega)
                    have HN : Keep (arraysC 0 (p.arrays.take (k + 1)) = .ok (tt + s)) := ⟨by
                      rw [HST.out.1]
                      unfold req
                      rw [if_pos (by simp; omega), if_pos (by simp; omega)]
                      rfl⟩
                    go_wp2_with fail
                    go_roundw
                    case rel => exact ⟨k + 1, tt + s, by omega, by go_num, rfl, by omega, by omega, HN, ⟨HBw.out.alloc HBw.out.size _⟩⟩
                    case measure => simp [intOf]; omega
              · obtain rfl : k = p.arrays.length := by omega
                have HPROG2 : Keep (programC p = (functionsC (cx0 p) p.funcs).bind fun c => (req (lastMain p) sMain 9).bind fun _ => req (limitsOk p c) sMain 6) := ⟨by
                  have h := HT.out
                  rw [List.take_length] at h
                  exact HPROG.out.trans (by rw [h]; rfl)⟩
                clear HPROG HT hlt hk
                have HLOWr := Keep.mk (HLOW5.out.trans (HBw.out.mono HLOW5.out.size))
                generalize wr = w6 at *
                obtain ⟨⟨x0, x1⟩, x2, xl⟩ := HX.out w6 HBr2.out
                have HGS6 := Keep.mk (HGS.out.below (HB5.out.trans (HBw.out.mono HB5.out.size)) (Nat.le_refl _))
                have HA6 := Keep.mk (HFNA.out.1.below HLOWr.out (Nat.le_refl _))
                have HF6 := Keep.mk (HFNA.out.2.below HLOWr.out (Nat.le_refl _))
                have HW6 := Keep.mk (Below.refl w6.heap.size w6)
                clear HB5 HB50 HBw HLOW5 HLOW62 HLOWr HFNA HGS HB62
                go_wp2_with fail
                clear x0 x1 x2 xl
                obtain ⟨i0, hi, hz0, hz1, hz2⟩ := info_parts Try.infoStrS
                go_loopw [99] (fun i wr => ∃ (k : Nat) (c : Cx), k ≤ p.funcs.length ∧ i = .int .i64 k ∧ Keep (functionsC (cx0 p) (p.funcs.take k) = .ok c) ∧ Keep (Below w6.heap.size w6 wr)) (fun i _ => p.funcs.length - (intOf i).toNat)
                case atStart => exact ⟨0, cx0 p, Nat.zero_le _, rfl, ⟨by rw [List.take_zero, functionsC]⟩, HW6⟩
                case round =>
                  clear HW6
                  obtain ⟨k, c, hk, rfl, HT, HBw⟩ := hrel
                  have HBr3 := Keep.mk (HBr2.out.trans (HBw.out.mono HBr2.out.size))
                  by_cases hlt : k < p.funcs.length
                  · have k0 : (0 : Int) ≤ k := by omega
                    have k1 : (k : Int) < p.funcs.length := by omega
                    obtain ⟨f, hfk⟩ : ∃ f, p.funcs[k]? = some f := ⟨_, List.getElem?_eq_getElem hlt⟩
                    obtain ⟨b, o, cap, up, ul, ub, hv, hb, x0, x1, x2, x3, hS1, hS2, nb, hS3⟩ := (HP.out w0 (Below.refl _ _)).2.2.get hfk
                    simp only [Value.slice.injEq, true_and] at hv
                    obtain ⟨rfl, rfl⟩ := hv
                    have z0 := (HBr3.out.cell (p := ⟨b, o + k * 4, none⟩) hb).trans x0
                    have z1 := (HBr3.out.cell (p := ⟨b, o + k * 4 + 1, none⟩) hb).trans x1
                    have z2 := (HBr3.out.cell (p := ⟨b, o + k * 4 + 2, none⟩) hb).trans x2
                    have z3 := (HBr3.out.cell (p := ⟨b, o + k * 4 + 3, none⟩) hb).trans x3
                    have hbl : b < wr.heap.size := Nat.lt_of_lt_of_le hb HBr3.out.size
                    obtain ⟨b1, d1, rfl, _, _⟩ := hS1.len
                    obtain ⟨b2, d2, rfl, _, _⟩ := hS2.len
                    obtain ⟨b3, d3, rfl, _, _⟩ := hS3.len
                    have hfm : f ∈ p.funcs := List.mem_of_getElem? hfk
                    have hbs := body_size hfm
                    have HBS : Keep (f.params.length + f.locals.length + nodesS f.body ≤ 800) := ⟨by have := HZ.out; omega⟩
                    have HSZS : Keep (szS f.body ≤ 1000000000) := ⟨by
                      have h1 := fsum_mem (g := fuSz) hfm
                      have h2 : fuSz f = 1 + f.name.size / 8 + f.params.length + f.locals.length + szS f.body + eighths (f.params ++ f.locals) := rfl
                      have h3 := HZ.out
                      unfold sizeP at h3
                      omega⟩
                    have hpl : f.params.length + f.locals.length ≤ 800 := by have := HBS.out; omega
                    have HNM : Keep (∀ x ∈ f.params ++ f.locals, x.size ≤ maxLen) := ⟨fun x hx => by
                      have h : x.size ≤ 1000000 := HFIT.out.names x (.inr (.inr ⟨f, hfm, by
                        rcases List.mem_append.1 hx with hx | hx
                        · exact .inr (.inl hx)
                        · exact .inr (.inr hx)⟩))
                      unfold maxLen
                      omega⟩
                    have HSTEP := Keep.mk (functionsC_step HT.out hfk)
                    have HREL := Keep.mk (scope_rel HT.out HND.out.1)
                    have HSAME := Keep.mk (functions_same HT.out)
                    have HOWN := Keep.mk (own_cases (allN p) (f.params ++ f.locals))
                    have HPAR := Keep.mk hS1
                    have HLOC := Keep.mk hS2
                    have HBDY := Keep.mk hS3
                    clear x0 x1 x2 x3 hS1 hS2 hS3 hfm hbs hfk
                    go_upto_region 28 with (fail)
                    clear z0 z1 z2 z3 hbl hb
                    obtain ⟨Z, hZ'⟩ : ∃ Z, Z = wr.heap.size := ⟨_, rfl⟩
                    have hbz : Below wr.heap.size wr (wr.alloc (.cells #[.string f.name, .slice b1 f.params.length d1, .slice b2 f.locals.length d2, .slice b3 f.body.length d3] 36)) := (Below.refl _ _).alloc (Nat.le_refl _) _
                    have hZ : (wr.alloc (.cells #[.string f.name, .slice b1 f.params.length d1, .slice b2 f.locals.length d2, .slice b3 f.body.length d3] 36)).heap[wr.heap.size]? = some (.cells #[.string f.name, .slice b1 f.params.length d1, .slice b2 f.locals.length d2, .slice b3 f.body.length d3] 36 (0, 0)) := heap_alloc_new wr _
                    replace HBr3 := Keep.mk (HBr3.out.trans (hbz.mono HBr3.out.size))
                    replace HBw := Keep.mk (HBw.out.trans (hbz.mono HBw.out.size))
                    rw [← hZ'] at hZ ⊢
                    generalize (wr.alloc (.cells #[.string f.name, .slice b1 f.params.length d1, .slice b2 f.locals.length d2, .slice b3 f.body.length d3] 36)) = wz at *
                    clear hbz hZ'
                    clear wr
                    have HZC : Keep (∀ w', Below wz.heap.size wz w' → ((w'.cell? ⟨Z, 0, none⟩ = some (.string f.name) ∧ w'.cell? ⟨Z, 1, none⟩ = some (.slice b1 f.params.length d1)) ∧ (w'.cell? ⟨Z, 2, none⟩ = some (.slice b2 f.locals.length d2) ∧ w'.cell? ⟨Z, 3, none⟩ = some (.slice b3 f.body.length d3))) ∧ Z < w'.heap.size) := ⟨fun w' h => by
                      have e := (h.block Z (Array.getElem?_eq_some_iff.1 hZ).1).trans hZ
                      exact ⟨⟨⟨by simp [World.cell?, e], by simp [World.cell?, e]⟩, ⟨by simp [World.cell?, e], by simp [World.cell?, e]⟩⟩, (Array.getElem?_eq_some_iff.1 e).1⟩⟩
                    clear hZ
                    have HSc : Keep (∀ w', Below wz.heap.size wz w' → (w'.cell? ⟨Z, 1, none⟩ = some (.slice b1 f.params.length d1) ∧ w'.cell? ⟨Z, 2, none⟩ = some (.slice b2 f.locals.length d2)) ∧ Below wz.heap.size wz w') := ⟨fun w' h => ⟨⟨(HZC.out w' h).1.1.2, (HZC.out w' h).1.2.1⟩, h⟩⟩
                    have HA0 : Keep ((wz.alloc (.cells #[] 9)).drew.ownsRow wz.heap.size 9 1 (.slice (some ⟨wz.heap.size, 0, none⟩) 0 0) 0 []) := ⟨World.ownsRow_made (base := wz.heap.size) (e := 9) (size := 1) wz #[] 0 (Nat.le_refl _) (by decide) rfl⟩
                    have HBA0 : Keep (Below wz.heap.size wz (wz.alloc (.cells #[] 9)).drew) := ⟨((Below.refl _ _).alloc (Nat.le_refl _) _).drew⟩
                    go_region_held3 (fun w' => (w'.cell? ⟨Z, 1, none⟩ = some (.slice b1 f.params.length d1) ∧ w'.cell? ⟨Z, 2, none⟩ = some (.slice b2 f.locals.length d2)) ∧ Below wz.heap.size wz w')
                      (first | with_reducible exact HSc.out _ (Below.refl wz.heap.size wz).drew | with_reducible exact HSc.out _ (Below.refl wz.heap.size wz) | with_reducible exact HSc.out _ HBA0.out | with_reducible exact HSc.out _ H5.out.2 | with_reducible exact HSc.out _ H6.out.2 | with_reducible assumption)
                      (first
                        | (rw [if_pos (by rfl)]; (refine wp_append_slc2 (.tmp 104) (.tmp 106) 22 rfl wz.heap.size 9 i0 (.string ⟨#[]⟩) 1 16 Try.underlying22 hi hz0 hz1 hz2 rfl (by decide) _ 0 [] rfl HA0.out _ f.params.length (strCells f.params) rfl ((HPAR.out.below (HBr3.out.trans (HBA0.out.mono HBr3.out.size)) (Nat.le_refl _)).slc) (strCells_one _) (by unfold maxLen; omega) (by omega) HBA0.out.size ?_); intro v5 w5' hown5 hg5 hv5; have H5 := Keep.mk (And.intro hown5 (below_append HBA0.out HBA0.out.size HA0.out (Nat.le_refl _) hg5)); clear hown5 hg5 hv5)
                        | (rw [if_pos (by rfl)]; (refine wp_append_slc2 (.tmp 107) (.tmp 109) 22 rfl wz.heap.size 9 i0 (.string ⟨#[]⟩) 1 16 Try.underlying22 hi hz0 hz1 hz2 rfl (by decide) _ (0 + f.params.length) ([] ++ strCells f.params) rfl H5.out.1 _ f.locals.length (strCells f.locals) rfl ((HLOC.out.below (HBr3.out.trans (H5.out.2.mono HBr3.out.size)) (Nat.le_refl _)).slc) (strCells_one _) (by unfold maxLen; omega) (by omega) H5.out.2.size ?_); intro v7 w7 hown7 hg7 hv7; obtain ⟨a7, c7, rfl⟩ := ownsRow_slice hown7; have H6 := Keep.mk (And.intro hown7 (below_append H5.out.2 H5.out.2.size H5.out.1 (Nat.le_refl _) hg7)); clear hown7 hg7 hv7))
                    rename_i hSS
                    clear hSS
                    obtain ⟨OW, hOW⟩ : ∃ OW, OW = f.params ++ f.locals := ⟨_, rfl⟩
                    have e1' : 0 + f.params.length + f.locals.length = OW.length := by rw [hOW, List.length_append]; omega
                    have HOS : Keep (Strs w7 (.slice a7 OW.length c7) OW) := ⟨by
                      have h : OwnStrs wz.heap.size w7 (.slice a7 OW.length c7) OW := by
                        unfold OwnStrs
                        have := H6.out.1
                        rw [e1'] at this
                        rw [hOW, strCells_append, ← hOW]
                        simpa using this
                      exact h.strs⟩
                    have hol : OW.length ≤ 800 := by rw [hOW, List.length_append]; omega
                    have HOW := Keep.mk hOW
                    rw [e1']
                    rw [← hOW] at HOWN HNM
                    have HBr7 := Keep.mk (HBr3.out.trans (H6.out.2.mono HBr3.out.size))
                    have HB67 := Keep.mk (HBw.out.trans (H6.out.2.mono HBw.out.size))
                    have HBz7 : Keep (Below wz.heap.size wz w7) := ⟨H6.out.2⟩
                    clear e1' hOW H5 H6 HSc HA0 HBA0 HPAR HLOC HBr3 HBw hpl
                    have e3' : f.params.length + f.locals.length = OW.length := by rw [HOW.out, List.length_append]
                    try rw [e3']
                    clear e3'
                    obtain ⟨r2, hr2⟩ : ∃ r2, r2 = globalsC L3 OW := ⟨_, rfl⟩
                    have HR2 : Keep (r2 = globalsC (allN p) OW) := ⟨by rw [hr2, HALL.out]⟩
                    obtain ⟨g1, g2, hpr2⟩ : ∃ g1 g2, pr r2 = (g1, g2) := ⟨_, _, rfl⟩
                    have HFR2 : Keep (Calls Try.prog 31 #[.slice na L3.length nc, .slice a7 OW.length c7] w7 fun e w' => (∃ v, e = .returned (.tuple #[v, .agg #[.string g1, .int .i64 g2]]) ∧ (∃ a n c, v = .slice a n c)) ∧ Below w7.heap.size w7 w') := ⟨by
                      have h := fresh_any (known := L3) (l := OW) (HGS6.out.below HB67.out (Nat.le_refl _)) HOS.out HNM.out (by have := HLL.out; omega)
                      rw [← hr2] at h
                      unfold FreshEnd at h
                      rw [hpr2] at h
                      unfold probV at h
                      exact h.mono fun e w' ⟨⟨v, he, ha, _⟩, hb⟩ => ⟨⟨v, he, ha⟩, hb⟩⟩
                    have HPR2 := Keep.mk hpr2
                    clear hr2 hpr2
                    go_wp2_with fail
                    refine HFR2.out.mono ?_
                    rintro _ w8 ⟨⟨v8, rfl, ⟨ga, gn, gc, rfl⟩⟩, hb8⟩
                    have HBr8 := Keep.mk (HBr7.out.trans (hb8.mono HBr7.out.size))
                    have HB68 := Keep.mk (HB67.out.trans (hb8.mono HB67.out.size))
                    have HBz8 := Keep.mk (HBz7.out.trans (hb8.mono HBz7.out.size))
                    have HOS8 := Keep.mk (HOS.out.below hb8 (Nat.le_refl _))
                    clear hb8 HFR2 HBr7 HB67 HBz7 HOS
                    have hb9 : Below w8.heap.size w8 (w8.alloc (.cells #[.string g1, .int .i64 g2] 79)) := (Below.refl _ _).alloc (Nat.le_refl _) _
                    by_cases hg2 : g2 = 0
                    · have f2 : (g2 != 0) = false := by simp [hg2]
                      have HOK : Keep (ownC c.globals [] (f.params ++ f.locals) = .ok (f.params ++ f.locals)) := ⟨by
                        rcases HOWN.out with ⟨v, h1, h2⟩ | ⟨k', h1, h2⟩
                        · exfalso
                          have h3 := HPR2.out
                          rw [HR2.out, h1] at h3
                          exact nz_globals _ _ v h1 (by have : v = (g1, g2) := h3; rw [this]; exact hg2)
                        · rw [HSAME.out.1, ← HOW.out]; exact h2⟩
                      clear hg2 HOWN HPR2 HR2
                      go_upto_region 32 with (fail)
                      clear f2
                      have HBr9 := Keep.mk (HBr8.out.trans (hb9.mono HBr8.out.size))
                      have HB69 := Keep.mk (HB68.out.trans (hb9.mono HB68.out.size))
                      have HBz9 := Keep.mk (HBz8.out.trans (hb9.mono HBz8.out.size))
                      have HOS9 := Keep.mk (HOS8.out.below hb9 (Nat.le_refl _))
                      generalize (w8.alloc (.cells #[.string g1, .int .i64 g2] 79)) = w9 at *
                      clear hb9 HBr8 HB68 HBz8 HOS8
                      have hkc : (k : Int) ≤ (c3 : Int) := by omega
                      have HSK : Keep (∀ w', Below w9.heap.size w9 w' → ((w'.cell? ⟨w.heap.size, 0, none⟩ = some (.slice a1 p.vars.length c1) ∧ w'.cell? ⟨w.heap.size, 2, none⟩ = some (.slice (some ⟨b, o, none⟩) p.funcs.length c3)) ∧ w'.cell? ⟨Z, 0, none⟩ = some (.string f.name)) ∧ Below w9.heap.size w9 w') := ⟨fun w' h => ⟨⟨⟨(HX.out w' (HBr9.out.trans (h.mono HBr9.out.size))).1.1, (HX.out w' (HBr9.out.trans (h.mono HBr9.out.size))).2.1⟩, (HZC.out w' (HBz9.out.trans (h.mono HBz9.out.size))).1.1.1⟩, h⟩⟩
                      go_region_held3 (fun w' => ((w'.cell? ⟨w.heap.size, 0, none⟩ = some (.slice a1 p.vars.length c1) ∧ w'.cell? ⟨w.heap.size, 2, none⟩ = some (.slice (some ⟨b, o, none⟩) p.funcs.length c3)) ∧ w'.cell? ⟨Z, 0, none⟩ = some (.string f.name)) ∧ Below w9.heap.size w9 w')
                        (first | with_reducible exact HSK.out _ (Below.refl w9.heap.size w9).drew | with_reducible exact HSK.out _ (Below.refl w9.heap.size w9) | with_reducible exact HSK.out _ ((Below.refl w9.heap.size w9).alloc (Nat.le_refl _) _).drew | with_reducible exact HSK.out _ (held_allocS (And.right (by assumption)) _) | with_reducible assumption)
                        (fail)
                      rename_i hSS
                      clear hSS
                      have hb10 : Below w9.heap.size w9 (w9.alloc (.cells #[.string f.name, .slice a7 OW.length c7, .slice a1 p.vars.length c1, .slice sa4 AN.length sc4, .slice (some ⟨b, o, none⟩) k c3, .slice sa5 FN.length sc5] 83)).drew := ((Below.refl _ _).alloc (Nat.le_refl _) _).drew
                      have hY : (w9.alloc (.cells #[.string f.name, .slice a7 OW.length c7, .slice a1 p.vars.length c1, .slice sa4 AN.length sc4, .slice (some ⟨b, o, none⟩) k c3, .slice sa5 FN.length sc5] 83)).drew.heap[w9.heap.size]? = some (.cells #[.string f.name, .slice a7 OW.length c7, .slice a1 p.vars.length c1, .slice sa4 AN.length sc4, .slice (some ⟨b, o, none⟩) k c3, .slice sa5 FN.length sc5] 83 (0, 0)) := heap_alloc_new w9 _
                      obtain ⟨Y, hYd⟩ : ∃ Y, Y = w9.heap.size := ⟨_, rfl⟩
                      have HBr10 := Keep.mk (HBr9.out.trans (hb10.mono HBr9.out.size))
                      have HB610 := Keep.mk (HB69.out.trans (hb10.mono HB69.out.size))
                      have HBz10 := Keep.mk (HBz9.out.trans (hb10.mono HBz9.out.size))
                      have HOS10 := Keep.mk (HOS9.out.below hb10 (Nat.le_refl _))
                      rw [← hYd] at hY ⊢
                      generalize (w9.alloc (.cells #[.string f.name, .slice a7 OW.length c7, .slice a1 p.vars.length c1, .slice sa4 AN.length sc4, .slice (some ⟨b, o, none⟩) k c3, .slice sa5 FN.length sc5] 83)).drew = w10 at *
                      clear hb10 hYd HBr9 HB69 HBz9 HOS9 HSK
                      have y0 : w10.cell? ⟨Y, 0, none⟩ = some (.string f.name) := by simp [World.cell?, hY]
                      have y1 : w10.cell? ⟨Y, 1, none⟩ = some (.slice a7 OW.length c7) := by simp [World.cell?, hY]
                      have y2 : w10.cell? ⟨Y, 2, none⟩ = some (.slice a1 p.vars.length c1) := by simp [World.cell?, hY]
                      have y3 : w10.cell? ⟨Y, 3, none⟩ = some (.slice sa4 AN.length sc4) := by simp [World.cell?, hY]
                      have y4 : w10.cell? ⟨Y, 4, none⟩ = some (.slice (some ⟨b, o, none⟩) k c3) := by simp [World.cell?, hY]
                      have y5 : w10.cell? ⟨Y, 5, none⟩ = some (.slice sa5 FN.length sc5) := by simp [World.cell?, hY]
                      have yl : Y < w10.heap.size := (Array.getElem?_eq_some_iff.1 hY).1
                      obtain ⟨⟨⟨t0, t1⟩, ⟨t2, t3⟩⟩, tl⟩ := HZC.out w10 HBz10.out
                      obtain ⟨q3, hq3⟩ : ∃ q3, q3 = stsC { c with name := f.name, own := f.params ++ f.locals } f.body 1 := ⟨_, rfl⟩
                      obtain ⟨h1, h2, hpr3⟩ : ∃ h1 h2, pr q3 = (h1, h2) := ⟨_, _, rfl⟩
                      have HBO : Keep (Calls Try.prog 32 #[.agg #[.string f.name, .slice a7 OW.length c7, .slice a1 p.vars.length c1, .slice sa4 AN.length sc4, .slice (some ⟨b, o, none⟩) k c3, .slice sa5 FN.length sc5], .slice b3 f.body.length d3] w10 fun e w' => e = .returned (.agg #[.string h1, .int .i64 h2]) ∧ Below w10.heap.size w10 w') := ⟨by
                        have hsc : ScAt w10 (.slice a7 OW.length c7) (.slice a1 p.vars.length c1) (.slice sa4 AN.length sc4) (.slice (some ⟨b, o, none⟩) k c3) (.slice sa5 FN.length sc5) { c with name := f.name, own := f.params ++ f.locals } (p.funcs.take k) FN := by
                          refine ⟨?_, ?_, ?_, ((HP.out w10 HBr10.out).2.2.take hk), HF6.out.below HB610.out (Nat.le_refl _), ?_, HREL.out.2⟩
                          · show Strs w10 _ (f.params ++ f.locals)
                            rw [← HOW.out]; exact HOS10.out
                          · show Strs w10 _ c.vars
                            rw [HSAME.out.2.1]; exact (HP.out w10 HBr10.out).1
                          · show Strs w10 _ c.arrays
                            rw [HSAME.out.2.2, ← HAN.out]; exact HA6.out.below HB610.out (Nat.le_refl _)
                          · rw [HFN.out]; exact HREL.out.1
                        have h := body_any nb f.body (.slice b3 f.body.length d3) w10 1 (HBDY.out.below HBr10.out (Nat.le_refl _)) HSZS.out hsc
                        rw [← hq3, hpr3] at h
                        exact h⟩
                      have HQ3 := Keep.mk hq3
                      have HPR3 := Keep.mk hpr3
                      clear hY hq3 hpr3
                      go_wp2_with fail
                      refine HBO.out.mono ?_
                      rintro _ w11 ⟨rfl, hb11⟩
                      have HBr11 := Keep.mk (HBr10.out.trans (hb11.mono HBr10.out.size))
                      have HB611 := Keep.mk (HB610.out.trans (hb11.mono HB610.out.size))
                      clear hb11 HBO HBr10 HB610 HBz10 HOS10 y0 y1 y2 y3 y4 y5 yl t0 t1 t2 t3 tl
                      by_cases hh2 : h2 = 0
                      · have f3 : (h2 != 0) = false := by simp [hh2]
                        have HNX : Keep (∃ c', functionsC (cx0 p) (p.funcs.take (k + 1)) = .ok c') := ⟨by
                          obtain ⟨r3, hr3⟩ := (prob_nz (show NZ q3 by rw [HQ3.out]; exact nz_sts _ _ _)).1 (by rw [HPR3.out]; exact hh2)
                          obtain ⟨c', hc'⟩ := (function_body HOK.out).2 r3 (by rw [← HQ3.out]; exact hr3)
                          exact ⟨c', by rw [HSTEP.out.1]; exact hc'⟩⟩
                        obtain ⟨cn, hcn⟩ := HNX.out
                        have HCN := Keep.mk hcn
                        clear hh2 hcn HNX
                        go_wp2_with fail
                        go_roundw
                        case rel => exact ⟨k + 1, cn, by omega, by go_num, HCN, ⟨HB611.out.alloc HB611.out.size _⟩⟩
                        case measure => simp [intOf]; omega
                      · have f3 : (h2 != 0) = true := by simp [hh2]
                        have HE : Keep (ck = (h1, h2)) := ⟨by
                          rw [HCK.out]
                          have h3 := HPR3.out
                          cases hq : q3 with
                          | bad v =>
                            rw [hq] at h3
                            have hv : v = (h1, h2) := h3
                            rw [← hv]
                            refine check_bad (HPROG2.out.trans ?_)
                            rw [HSTEP.out.2 v ((function_body HOK.out).1 v (by rw [← HQ3.out]; exact hq))]
                            rfl
                          | ok r =>
                            rw [hq] at h3
                            cases h3
                            exact absurd rfl hh2⟩
                        clear hh2
                        go_wp2_with fail
                        go_quiet (fail)
                        have HB12 := Keep.mk (below_drewN (HBr11.out.alloc HBr11.out.size (.cells #[.string h1, .int .i64 h2] 79)) nq)
                        go_wp2_with fail
                        go_ret2
                        exact ⟨by rw [HE.out]; rfl, HB0.out.trans (HB12.out.mono HB0.out.size)⟩
                    · have f2 : (g2 != 0) = true := by simp [hg2]
                      have HE : Keep (ck = (g1, g2)) := ⟨by
                        rw [HCK.out]
                        rcases HOWN.out with ⟨v, h1, h2⟩ | ⟨k', h1, h2⟩
                        · have h3 := HPR2.out
                          rw [HR2.out, h1] at h3
                          have hv : v = (g1, g2) := h3
                          rw [← hv]
                          refine check_bad (HPROG2.out.trans ?_)
                          rw [HSTEP.out.2 v (function_bad (by rw [HSAME.out.1, ← HOW.out]; exact h2))]
                          rfl
                        · have h3 := HPR2.out
                          rw [HR2.out, h1] at h3
                          cases h3
                          exact absurd rfl hg2⟩
                      clear hg2
                      go_wp2_with fail
                      go_quiet (fail)
                      have HB10 := Keep.mk (below_drewN (HBr8.out.alloc HBr8.out.size (.cells #[.string g1, .int .i64 g2] 79)) nq)
                      go_wp2_with fail
                      go_ret2
                      exact ⟨by rw [HE.out]; rfl, HB0.out.trans (HB10.out.mono HB0.out.size)⟩
                  · obtain rfl : k = p.funcs.length := by omega
                    rw [List.take_length] at HT
                    have HP3 : Keep (programC p = (req (lastMain p) sMain 9).bind fun _ => req (limitsOk p c) sMain 6) := ⟨HPROG2.out.trans (by rw [HT.out]; rfl)⟩
                    have HBE := Keep.mk (HB0.out.trans (HBr3.out.mono HB0.out.size))
                    clear hlt hk HGS6 HA6 HF6 HPROG2 HAN HFN HLL HALL HBr2 HBw
                    obtain ⟨⟨x0, x1⟩, x2, xl⟩ := HX.out wr HBr3.out
                    by_cases hn0 : p.funcs.length = 0
                    · have HE : Keep (ck = (sMain, 9)) := ⟨by
                        rw [HCK.out]
                        refine check_bad (HP3.out.trans ?_)
                        rw [last_none hn0]
                        rfl⟩
                      have q0 : ((p.funcs.length : Int) == 0) = true := by rw [hn0]; rfl
                      clear hn0
                      go_wp2_with fail
                      go_ret2
                      exact ⟨by rw [HE.out]; rfl, HBE.out⟩
                    · obtain ⟨n, hn⟩ : ∃ n, p.funcs.length = n + 1 := ⟨p.funcs.length - 1, by omega⟩
                      obtain ⟨f, hf⟩ : ∃ f, p.funcs[n]? = some f := ⟨_, List.getElem?_eq_getElem (by omega)⟩
                      have q0 : ((p.funcs.length : Int) == 0) = false := by rw [beq_eq_false_iff_ne]; omega
                      have n0 : (0 : Int) ≤ n := by omega
                      have n1 : (n : Int) < p.funcs.length := by omega
                      have s1 : IntKind.i64.wrap ((p.funcs.length : Int) - 1) = n := by rw [IntWalk.i64_in _ (by omega)]; omega
                      have HLAST := Keep.mk (last_is hn hf)
                      have HNEED := Keep.mk (fun hm => last_need HT.out HND.out.1 hn hf hm)
                      have HN := Keep.mk hn
                      obtain ⟨b, o, cap, up, ul, ub, hv, hb, z0, z1, z2, z3, hS1, hS2, nb, hS3⟩ := (HP.out wr HBr3.out).2.2.get hf
                      simp only [Value.slice.injEq, true_and] at hv
                      obtain ⟨rfl, rfl⟩ := hv
                      obtain ⟨b1, d1, rfl, _, _⟩ := hS1.len
                      obtain ⟨b2, d2, rfl, _, _⟩ := hS2.len
                      obtain ⟨b3, d3, rfl, _, _⟩ := hS3.len
                      clear hS1 hS2 hS3 hn hf hn0
                      by_cases hm : f.name = sMain
                      · have q1a : (f.name.toList == [109, 97, 105, 110]) = true := by rw [eqs f.name (k := sMain) (by decide +kernel), decide_eq_true hm]
                        have q1 : (f.name.toList != [109, 97, 105, 110]) = false := by rw [bne, q1a]; rfl
                        obtain ⟨va, vb, hna, hnb, hva, hvb⟩ := HNEED.out hm
                        have HNV := Keep.mk (And.intro (And.intro hna hnb) (And.intro hva hvb))
                        have HM := Keep.mk hm
                        clear hm hna hnb hva hvb
                        by_cases hpz : f.params.length = 0
                        · have q2 : ¬ (0 : Int) < (f.params.length : Int) := by omega
                          have HLT : Keep (lastMain p = true) := ⟨by rw [HLAST.out, decide_eq_true HM.out, decide_eq_true hpz]; rfl⟩
                          have HMS := Keep.mk (measure_any (HP.out wr HBr3.out) HZ.out (c0 := cx0 p) rfl HND.out.1 HND.out.2.1 HND.out.2.2 HT.out)
                          clear hpz
                          go_wp2_with fail
                          refine HMS.out.mono ?_
                          rintro _ wm ⟨v1, v2, rfl, hs1, hs2, hbm⟩
                          clear z0 z1 z2 z3 x0 x1 x2 xl q0 q1 q1a q2 hb HMS
                          have HBM := Keep.mk (HBr3.out.trans (hbm.mono HBr3.out.size))
                          have hlen : (ndsOf c).length = p.funcs.length ∧ (dpsOf c).length = p.funcs.length := by
                            have hm := msIs_of (c0 := cx0 p) (fs := p.funcs) (k := p.funcs.length) rfl (by rw [List.take_length]; exact HT.out)
                            have h := hm.len
                            rw [List.take_length] at h
                            exact h
                          obtain ⟨n1b, o1, cap1, hv1, hb1, hc1⟩ := num_get (l := ndsOf c) (v := v1) (by rw [hlen.1]; exact hs1) HNV.out.1.1
                          obtain ⟨n2b, o2, cap2, hv2, hb2, hc2⟩ := num_get (l := dpsOf c) (v := v2) (by rw [hlen.2]; exact hs2) HNV.out.1.2
                          rw [hlen.1] at hv1
                          rw [hlen.2] at hv2
                          subst hv1
                          subst hv2
                          have HCC := Keep.mk (And.intro (And.intro hb1 hc1) (And.intro hb2 hc2))
                          have HSC := Keep.mk (refScalars_any (HP.out wm HBM.out) HFIT.out)
                          have HSN : Keep (scalarsN p ≤ 400) := ⟨by
                            have h : (p.funcs.map fun f => f.params.length + f.locals.length).sum ≤ (p.funcs.map fuSz).sum := by
                              generalize p.funcs = l
                              induction l with
                              | nil => simp
                              | cons f l ih =>
                                simp only [List.map_cons, List.sum_cons]
                                have e1 : fuSz f = 1 + f.name.size / 8 + f.params.length + f.locals.length + szS f.body + eighths (f.params ++ f.locals) := rfl
                                omega
                            have h2 := HZ.out
                            unfold sizeP at h2
                            unfold scalarsN
                            omega⟩
                          obtain ⟨⟨x0, x1⟩, x2, xl⟩ := HX.out wm HBM.out
                          clear hbm hs1 hs2 hlen hb1 hc1 hb2 hc2
                          go_wp2_with fail
                          refine HSC.out.mono ?_
                          rintro _ ws ⟨v3, rfl, hv3, hb3⟩
                          obtain ⟨a3', c3', rfl⟩ := ownsRow_slice hv3
                          clear x0 x1 x2 xl hv3
                          rw [scalarsL_length]
                          have q8 : ¬ (8000 : Int) < (scalarsN p : Int) := by have := HSN.out; omega
                          have y1 := (hb3.cell (p := ⟨n1b, o1 + n, none⟩) HCC.out.1.1).trans HCC.out.1.2
                          have y2 := (hb3.cell (p := ⟨n2b, o2 + n, none⟩) HCC.out.2.1).trans HCC.out.2.2
                          have y3 : n1b < ws.heap.size := Nat.lt_of_lt_of_le HCC.out.1.1 hb3.size
                          have y4 : n2b < ws.heap.size := Nat.lt_of_lt_of_le HCC.out.2.1 hb3.size
                          have HBF := Keep.mk (HB0.out.trans ((HBM.out.trans (hb3.mono HBM.out.size)).mono HB0.out.size))
                          clear hb3 HSC
                          by_cases hA : 200 < va
                          · have q9 : (200 : Int) < (va : Int) := by omega
                            have HE : Keep (ck = (sMain, 6)) := ⟨by
                              rw [HCK.out]
                              refine check_bad (HP3.out.trans ?_)
                              rw [HLT.out]
                              unfold limitsOk
                              rw [HNV.out.2.1, HNV.out.2.2, decide_eq_false (show ¬ va ≤ 200 by omega), Bool.and_false, Bool.false_and]
                              rfl⟩
                            clear hA
                            go_wp2_with fail
                            go_ret2
                            exact ⟨by rw [HE.out]; rfl, HBF.out⟩
                          · have q9 : ¬ (200 : Int) < (va : Int) := by omega
                            by_cases hBq : 60 < vb
                            · have q10 : (60 : Int) < (vb : Int) := by omega
                              have HE : Keep (ck = (sMain, 6)) := ⟨by
                                rw [HCK.out]
                                refine check_bad (HP3.out.trans ?_)
                                rw [HLT.out]
                                unfold limitsOk
                                rw [HNV.out.2.1, HNV.out.2.2, decide_eq_false (show ¬ vb ≤ 60 by omega), Bool.and_false]
                                rfl⟩
                              clear hA hBq
                              go_wp2_with fail
                              go_ret2
                              exact ⟨by rw [HE.out]; rfl, HBF.out⟩
                            · have q10 : ¬ (60 : Int) < (vb : Int) := by omega
                              have HE : Keep (ck = (⟨#[]⟩, 0)) := ⟨by
                                rw [HCK.out]
                                refine check_of_ok (HP3.out.trans ?_)
                                rw [HLT.out]
                                unfold limitsOk
                                rw [HNV.out.2.1, HNV.out.2.2, decide_eq_true (show va ≤ 200 by omega), decide_eq_true (show vb ≤ 60 by omega), decide_eq_true (show scalarsN p ≤ 8000 by have := HSN.out; omega)]
                                rfl⟩
                              clear hA hBq
                              go_wp2_with fail
                              go_ret2
                              exact ⟨by rw [HE.out]; rfl, HBF.out⟩
                        · have q2 : (0 : Int) < (f.params.length : Int) := by omega
                          have HE : Keep (ck = (sMain, 9)) := ⟨by
                            rw [HCK.out]
                            refine check_bad (HP3.out.trans ?_)
                            rw [HLAST.out, decide_eq_false hpz, Bool.and_false]
                            rfl⟩
                          clear hpz
                          go_wp2_with fail
                          go_ret2
                          exact ⟨by rw [HE.out]; rfl, HBE.out⟩
                      · have q1a : (f.name.toList == [109, 97, 105, 110]) = false := by rw [eqs f.name (k := sMain) (by decide +kernel), decide_eq_false hm]
                        have q1 : (f.name.toList != [109, 97, 105, 110]) = true := by rw [bne, q1a]; rfl
                        have HE : Keep (ck = (sMain, 9)) := ⟨by
                          rw [HCK.out]
                          refine check_bad (HP3.out.trans ?_)
                          rw [HLAST.out, decide_eq_false hm, Bool.false_and]
                          rfl⟩
                        clear hm
                        go_wp2_with fail
                        go_ret2
                        exact ⟨by rw [HE.out]; rfl, HBE.out⟩
          · have f1 : (e2 != 0) = true := by simp [he2]
            have HE : Keep (ck = (e1, e2)) := ⟨by
              rw [HCK.out]
              cases hr : r with
              | bad v =>
                rw [check_bad (HPRG.out.1 v hr)]
                have := HPR.out
                rw [hr] at this
                exact this
              | ok g =>
                have := HPR.out
                rw [hr] at this
                cases this
                exact absurd rfl he2⟩
            clear he2
            go_wp2_with fail
            go_quiet (fail)
            have HB7 := Keep.mk (below_drewN (HB62.out.alloc HB62.out.size (.cells #[.string e1, .int .i64 e2] 79)) nq)
            go_wp2_with fail
            go_ret2
            exact ⟨by rw [HE.out]; rfl, HB0.out.trans (HB7.out.mono HB0.out.size)⟩
end Go.Proofs.Ytgimdbflpdmlmaa
