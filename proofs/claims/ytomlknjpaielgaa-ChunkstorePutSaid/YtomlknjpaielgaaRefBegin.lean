/- Begin of the reference. Condition: a valid session. -/
import Derived.Test.YtomlknjpaielgaaRefFind
import Derived.Test.YtomlknjpaielgaaRefAdd
namespace Go.Proofs.Ytomlknjpaielgaa
set_option maxRecDepth 100000
open Go.RowKit Go.Shelf Go.Proofs.Ytomlknjpaielgaa.Store

set_option maxHeartbeats 4000000 in
theorem refBegin_any {w : World} {a : Option Addr} {n c : Nat} {ses s2 : Int} {st : ByteArray} (h1 : 1 ≤ s2) (h2 : s2 ≤ 255) (h3 : ses < s2) :
    Calls Try.prog 12 #[.agg #[.slice a n c, .int .i64 ses, .string st], .int .i64 s2] w fun e w' => e = .returned (.tuple #[.agg #[.slice a n c, .int .i64 s2, .string ⟨#[]⟩], .int .i64 0]) ∧ Below w.heap.size w w' := by
  have h1' : ¬ s2 < 1 := by omega
  have h2' : ¬ (255 : Int) < s2 := by omega
  have h3' : ¬ s2 ≤ ses := by omega
  obtain ⟨wa, hwa⟩ : ∃ wa, wa = (w.alloc (.cells #[.slice a n c, .int .i64 ses, .string st] 27)).alloc (.cells #[.slice none 0 0, .int .i64 0, .string ⟨#[]⟩] 27) := ⟨_, rfl⟩
  have hA1 : Keep (Arr wa w.heap.size 27 (storeCells (.slice a n c) ses st)) := ⟨by rw [hwa]; exact (Arr.new w _ (storeCells (.slice a n c) ses st)).alloc _⟩
  have hA2 : Keep (Arr wa (w.heap.size + 1) 27 (storeCells (.slice none 0 0) 0 ⟨#[]⟩)) := ⟨by
    have := Arr.new (w.alloc (.cells #[.slice a n c, .int .i64 ses, .string st] 27)) 27 (storeCells (.slice none 0 0) 0 ⟨#[]⟩)
    rw [World.size_alloc] at this
    rw [hwa]; exact this⟩
  have hBa : Keep (Below w.heap.size w wa) := ⟨by rw [hwa]; exact ((Below.refl _ _).alloc (Nat.le_refl _) _).alloc (by simp) _⟩
  go_enter Try.func12, Try.ntmps12
  go_upto_region 1 with (fail)
  rw [← hwa]
  clear hwa
  have a0 := hA1.out.cell 0
  have a1 := hA1.out.cell 1
  have b0 := hA2.out.cell 0
  have b1 := hA2.out.cell 1
  have b2 := hA2.out.cell 2
  have f0 := hA2.out.frozen 0
  have f1 := hA2.out.frozen 1
  have f2 := hA2.out.frozen 2
  have bl := hA2.out.lt
  simp only [storeCells, List.getElem?_cons_zero, List.getElem?_cons_succ] at a0 a1 b0 b1 b2
  go_wp2
  have hE := store_filled (a := .slice a n c) (b := s2) (c := ⟨#[]⟩) hA2.out
  have c0 := hE.1.cell 0
  have c1 := hE.1.cell 1
  have c2 := hE.1.cell 2
  simp only [storeCells, List.getElem?_cons_zero, List.getElem?_cons_succ] at c0 c1 c2
  have hB := ((hBa.out.setCell (p := ⟨w.heap.size + 1, 0, none⟩) (by show w.heap.size ≤ w.heap.size + 1; omega) (.slice a n c)).setCell (p := ⟨w.heap.size + 1, 1, none⟩) (by show w.heap.size ≤ w.heap.size + 1; omega) (.int .i64 s2)).setCell (p := ⟨w.heap.size + 1, 2, none⟩) (by show w.heap.size ≤ w.heap.size + 1; omega) (.string ⟨#[]⟩)
  clear hE a0 a1 b0 b1 b2 f0 f1 f2 bl hA1 hA2 hBa
  generalize (((wa.setCell ⟨w.heap.size + 1, 0, none⟩ (.slice a n c)).setCell ⟨w.heap.size + 1, 1, none⟩ (.int .i64 s2)).setCell ⟨w.heap.size + 1, 2, none⟩ (.string ⟨#[]⟩)) = wf at *
  refine bodyPost_ret (v := .tuple #[.agg #[.slice a n c, .int .i64 s2, .string ⟨#[]⟩], .int .i64 0]) (by simp [results, Try.results12, go_sem, c0, c1, c2]) rfl ⟨rfl, hB⟩
end Go.Proofs.Ytomlknjpaielgaa
