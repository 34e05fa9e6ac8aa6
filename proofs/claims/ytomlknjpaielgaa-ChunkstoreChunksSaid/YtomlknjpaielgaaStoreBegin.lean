/- Begin of the program. Condition: a valid session. -/
import Derived.Test.YtomlknjpaielgaaStoreSame2
namespace Go.Proofs.Ytomlknjpaielgaa
set_option maxRecDepth 100000
open Go.RowKit Go.Shelf Go.Proofs.Ytomlknjpaielgaa.Store

set_option maxHeartbeats 8000000 in
theorem begin_any {w : World} {v : Value} {cs : List Chk} {ses s2 : Int} {st : ByteArray} (h : Chks w v cs) (hcl : cs.length ≤ 1000000) (h1 : 1 ≤ s2) (h2 : s2 ≤ 255) (h3 : ses < s2) :
    Calls Try.prog 11 #[.agg #[v, .int .i64 ses, .string st], .int .i64 s2] w fun e w' => ∃ a c, e = .returned (.tuple #[.agg #[.slice a cs.length c, .int .i64 s2, .string ⟨#[]⟩], .int .i64 0]) ∧ OwnChks w.heap.size w' (.slice a cs.length c) cs ∧ Below w.heap.size w w' := by
  obtain ⟨av, capv, rfl, _⟩ := h.parts
  have HS := Keep.mk h
  clear h
  go_enter Try.func11, Try.ntmps11
  go_upto_region 1 with (fail)
  obtain ⟨wa, hwa⟩ : ∃ wa, wa = (w.alloc (.cells #[.slice av cs.length capv, .int .i64 ses, .string st] 27)).alloc (.cells #[.slice none 0 0, .int .i64 0, .string ⟨#[]⟩] 27) := ⟨_, rfl⟩
  have hb1 : Below w.heap.size w (w.alloc (.cells #[.slice av cs.length capv, .int .i64 ses, .string st] 27)) := (Below.refl _ _).alloc (Nat.le_refl _) _
  have hA1 : Keep (Arr wa w.heap.size 27 (storeCells (.slice av cs.length capv) ses st)) := ⟨by rw [hwa]; exact (Arr.new w _ (storeCells (.slice av cs.length capv) ses st)).alloc _⟩
  have hA2 : Keep (Arr wa (w.heap.size + 1) 27 (storeCells (.slice none 0 0) 0 ⟨#[]⟩)) := ⟨by
    have := Arr.new (w.alloc (.cells #[.slice av cs.length capv, .int .i64 ses, .string st] 27)) 27 (storeCells (.slice none 0 0) 0 ⟨#[]⟩)
    rw [World.size_alloc] at this
    rw [hwa]; exact this⟩
  have hBa : Keep (Below w.heap.size w wa) := ⟨by rw [hwa]; exact hb1.alloc hb1.size _⟩
  have hza : w.heap.size + 2 = wa.heap.size := by rw [hwa]; simp
  have HSa := Keep.mk (HS.out.below hBa.out (Nat.le_refl _))
  rw [← hwa]
  clear hwa hb1
  go_cut [6] from 7 to 14 (fun v7 wx => PutBegun w (.slice av cs.length capv) ses st cs v7 wx)
  case first =>
    have ha0 := hA1.out.cell 0
    have ha1 := hA1.out.cell 1
    have ha2 := hA1.out.cell 2
    simp only [storeCells, List.getElem?_cons_zero, List.getElem?_cons_succ] at ha0 ha1 ha2
    have HFin : Keep (∀ (wx : World) (G : Nat) (cv : Value), Below wa.heap.size wa wx → w.heap.size + 2 ≤ G → Arr wx G 27 (storeCells cv ses st) → OwnChks wa.heap.size wx cv cs → PutBegun w (.slice av cs.length capv) ses st cs (.pointer (some ⟨G, 0, none⟩)) wx) := ⟨fun wx G cv hb hG hA hr =>
      ⟨G, cv, rfl, hG, hA, ownsRow_base hr (by omega), hA1.out.below hb hA1.out.lt, hA2.out.below hb hA2.out.lt, hBa.out.trans (hb.mono (by omega))⟩⟩
    clear hA1 hA2 hBa
    have HCl := fun (wx : World) (h : Below wa.heap.size wa wx) => clone_more (clone_any (HSa.out.below h (Nat.le_refl _)) hcl) h.size
    go_region_held3 (fun w' => (w'.cell? ⟨w.heap.size, 0, none⟩ = some (.slice av cs.length capv) ∧ w'.cell? ⟨w.heap.size, 1, none⟩ = some (.int .i64 ses) ∧ w'.cell? ⟨w.heap.size, 2, none⟩ = some (.string st)) ∧ Below wa.heap.size wa w')
      (first | with_reducible exact held_start3 ⟨⟨ha0, ha1, ha2⟩, Below.refl wa.heap.size wa⟩ | with_reducible exact held_three_set hza (by assumption) | with_reducible exact held_three hza hb4 (by assumption) | with_reducible exact held_three_alloc hza (by assumption) | with_reducible exact held_three_allocd hza (by assumption) | with_reducible exact held_three_re hza hz4 (by assumption) | with_reducible assumption)
      ((go_at_call 25; refine (HCl _ ?_).mono ?_; (exact And.right (by assumption)); rintro e w4 ⟨a4, c4, rfl, hcv, hb4, hz4⟩; (first | (have hg4 := zero_store hb4; have g40 := hg4.cell 0; have g41 := hg4.cell 1; have g42 := hg4.cell 2; have f40 := hg4.frozen 0; have f41 := hg4.frozen 1; have f42 := hg4.frozen 2; simp only [storeCells, List.getElem?_cons_zero, List.getElem?_cons_succ] at g40 g41 g42; have hlt4 := hg4.lt) | skip)))
    · go_wp2
      go_meet
      exact HFin.out _ _ _ (And.right (by assumption)) (by omega) (Arr.new w4 _ (storeCells (.slice a4 cs.length c4) ses st)) (World.ownsRow.alloc hcv _)
    · go_wp2
      go_meet
      exact HFin.out _ _ _ (And.right (by assumption)) (by omega) (((hg4.set 0 _).set 1 _).set 2 _) (row_filled hg4 (ownsRow_base hcv (by show wa.heap.size ≤ (wa.alloc _).heap.size; simp)))
  case rest =>
  obtain ⟨G, cv, rfl, hG, hGa, hrow, hpar, hres, hbel⟩ := hcut
  obtain ⟨ca, cc, rfl⟩ := ownsRow_slice hrow
  have hP1 := hpar.cell 1
  have hG0 := hGa.cell 0
  have hG1 := hGa.cell 1
  have hG2 := hGa.cell 2
  have hGf1 := hGa.frozen 1
  have hGf2 := hGa.frozen 2
  have hr0 := hres.cell 0
  have hr1 := hres.cell 1
  have hr2 := hres.cell 2
  have hf0 := hres.frozen 0
  have hf1 := hres.frozen 1
  have hf2 := hres.frozen 2
  have hrl := hres.lt
  have hGl := hGa.lt
  have hne : G ≠ w.heap.size + 1 := by omega
  have hne' : w.heap.size + 1 ≠ G := by omega
  have HK := Keep.mk (And.intro hGa (And.intro hrow (And.intro hres hbel)))
  simp only [storeCells, List.getElem?_cons_zero, List.getElem?_cons_succ] at hP1 hG0 hG1 hG2 hr0 hr1 hr2
  clear hGa hrow hpar hres hbel hA1 hA2 hBa HSa hza wa HS
  have h1' : ¬ s2 < 1 := by omega
  have h2' : ¬ (255 : Int) < s2 := by omega
  have h3' : ¬ s2 ≤ ses := by omega
  go_wp2
  obtain ⟨hGa, hrow, hres, hbel⟩ := HK.out
  have o1 := OnlyT.setCell (OnlyT.refl [27] wc) (a := ⟨G, 1, none⟩) hGa (by simp) (.int .i64 s2)
  have o2 := OnlyT.setCell o1 (a := ⟨G, 2, none⟩) (hGa.set 1 (.int .i64 s2)) (by simp) (.string ⟨#[]⟩)
  have r2 := (hres.other (p := ⟨G, 1, none⟩) hne' (.int .i64 s2)).other (p := ⟨G, 2, none⟩) hne' (.string ⟨#[]⟩)
  have b2 := (hbel.setCell (p := ⟨G, 1, none⟩) (by show w.heap.size ≤ G; omega) (.int .i64 s2)).setCell (p := ⟨G, 2, none⟩) (by show w.heap.size ≤ G; omega) (.string ⟨#[]⟩)
  have row2 := o2.row hrow (by decide)
  clear o1 o2 hGa hrow hres hbel HK
  clear hP1 hG0 hG1 hG2 hGf1 hGf2 hr0 hr1 hr2 hf0 hf1 hf2 hrl hGl
  generalize ((wc.setCell ⟨G, 1, none⟩ (.int .i64 s2)).setCell ⟨G, 2, none⟩ (.string ⟨#[]⟩)) = wx at *
  have HFIN := store_filled (a := .slice ca cs.length cc) (b := s2) (c := ⟨#[]⟩) r2
  have rowf := HFIN.2.row row2 (by decide)
  have bf := ((b2.setCell (p := ⟨w.heap.size + 1, 0, none⟩) (by show w.heap.size ≤ w.heap.size + 1; omega) (.slice ca cs.length cc)).setCell (p := ⟨w.heap.size + 1, 1, none⟩) (by show w.heap.size ≤ w.heap.size + 1; omega) (.int .i64 s2)).setCell (p := ⟨w.heap.size + 1, 2, none⟩) (by show w.heap.size ≤ w.heap.size + 1; omega) (.string ⟨#[]⟩)
  have c0 := HFIN.1.cell 0
  have c1 := HFIN.1.cell 1
  have c2 := HFIN.1.cell 2
  simp only [storeCells, List.getElem?_cons_zero, List.getElem?_cons_succ] at c0 c1 c2
  clear HFIN b2 row2 r2
  generalize (((wx.setCell ⟨w.heap.size + 1, 0, none⟩ (.slice ca cs.length cc)).setCell ⟨w.heap.size + 1, 1, none⟩ (.int .i64 s2)).setCell ⟨w.heap.size + 1, 2, none⟩ (.string ⟨#[]⟩)) = wf at *
  refine bodyPost_ret (v := .tuple #[.agg #[.slice ca cs.length cc, .int .i64 s2, .string ⟨#[]⟩], .int .i64 0]) (by simp [results, Try.results11, go_sem, c0, c1, c2]) rfl ?_
  exact ⟨_, _, rfl, rowf, bf⟩
end Go.Proofs.Ytomlknjpaielgaa
