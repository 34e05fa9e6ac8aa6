/- The reference's scalar, indexed and called. No condition. -/
import Derived.Test.YtgimdbflpdmlmaaRuScope
namespace Go.Proofs.Ytgimdbflpdmlmaa
set_option maxRecDepth 100000
open Go.RowKit Go.Shelf Go.Proofs.Ytgimdbflpdmlmaa.Ck

/-- The two boxes at the beginning of a check: the scope, the result. -/
structure Boxes (w w1 : World) (name : ByteArray) (s1 s2 s3 s4 s5 : Value) : Prop where
  bel : Below w.heap.size w w1
  c0 : w1.cell? ⟨w.heap.size, 0, none⟩ = some (.string name)
  c1 : w1.cell? ⟨w.heap.size, 1, none⟩ = some s1
  c2 : w1.cell? ⟨w.heap.size, 2, none⟩ = some s2
  c3 : w1.cell? ⟨w.heap.size, 3, none⟩ = some s3
  c4 : w1.cell? ⟨w.heap.size, 4, none⟩ = some s4
  c5 : w1.cell? ⟨w.heap.size, 5, none⟩ = some s5
  p : w1.heap[w.heap.size + 1]? = some (.cells #[.string ⟨#[]⟩, .int .i64 0] 79 (0, 0))
  l0 : w.heap.size < w1.heap.size
  l1 : w.heap.size + 1 < w1.heap.size
theorem Boxes.made (w : World) (name : ByteArray) (s1 s2 s3 s4 s5 : Value) : Boxes w ((w.alloc (.cells #[.string name, s1, s2, s3, s4, s5] 83)).alloc (.cells #[.string ⟨#[]⟩, .int .i64 0] 79)) name s1 s2 s3 s4 s5 := by
  have e0 := heap_alloc_new w (.cells #[.string name, s1, s2, s3, s4, s5] 83)
  have b0 : Below w.heap.size w (w.alloc (.cells #[.string name, s1, s2, s3, s4, s5] 83)) := (Below.refl _ _).alloc (Nat.le_refl _) _
  have z0 : (w.alloc (.cells #[.string name, s1, s2, s3, s4, s5] 83)).heap.size = w.heap.size + 1 := World.size_alloc ..
  generalize w.alloc (.cells #[.string name, s1, s2, s3, s4, s5] 83) = w0 at *
  have e1 := heap_alloc_new w0 (.cells #[.string ⟨#[]⟩, .int .i64 0] 79)
  have b1 : Below w0.heap.size w0 (w0.alloc (.cells #[.string ⟨#[]⟩, .int .i64 0] 79)) := (Below.refl _ _).alloc (Nat.le_refl _) _
  have z1 : (w0.alloc (.cells #[.string ⟨#[]⟩, .int .i64 0] 79)).heap.size = w0.heap.size + 1 := World.size_alloc ..
  generalize w0.alloc (.cells #[.string ⟨#[]⟩, .int .i64 0] 79) = w1 at *
  rw [z0] at e1
  have e := (b1.block w.heap.size (by omega)).trans e0
  exact ⟨b0.trans (b1.mono (by omega)), by simp [World.cell?, e], by simp [World.cell?, e], by simp [World.cell?, e], by simp [World.cell?, e], by simp [World.cell?, e], by simp [World.cell?, e], e1, by omega, by omega⟩
theorem Boxes.later {w w1 w2 : World} {name : ByteArray} {s1 s2 s3 s4 s5 : Value} (h : Boxes w w1 name s1 s2 s3 s4 s5) (hb : Below w1.heap.size w1 w2) : Boxes w w2 name s1 s2 s3 s4 s5 := by
  have hz := hb.size
  have l0 := h.l0
  have l1 := h.l1
  exact ⟨h.bel.trans (hb.mono h.bel.size), (hb.cell (p := ⟨w.heap.size, 0, none⟩) l0).trans h.c0, (hb.cell (p := ⟨w.heap.size, 1, none⟩) l0).trans h.c1, (hb.cell (p := ⟨w.heap.size, 2, none⟩) l0).trans h.c2, (hb.cell (p := ⟨w.heap.size, 3, none⟩) l0).trans h.c3, (hb.cell (p := ⟨w.heap.size, 4, none⟩) l0).trans h.c4, (hb.cell (p := ⟨w.heap.size, 5, none⟩) l0).trans h.c5, (hb.block (w.heap.size + 1) l1).trans h.p, by omega, by omega⟩
/-- The result is written: a word of it. -/
theorem Boxes.put {w w1 : World} {name : ByteArray} {s1 s2 s3 s4 s5 : Value} (h : Boxes w w1 name s1 s2 s3 s4 s5) (x : ByteArray) (e : Int) :
    ((w1.setCell ⟨w.heap.size + 1, 0, none⟩ (.string x)).setCell ⟨w.heap.size + 1, 1, none⟩ (.int .i64 e)).cell? ⟨w.heap.size + 1, 0, none⟩ = some (.string x) ∧ ((w1.setCell ⟨w.heap.size + 1, 0, none⟩ (.string x)).setCell ⟨w.heap.size + 1, 1, none⟩ (.int .i64 e)).cell? ⟨w.heap.size + 1, 1, none⟩ = some (.int .i64 e) ∧
    Below w.heap.size w ((w1.setCell ⟨w.heap.size + 1, 0, none⟩ (.string x)).setCell ⟨w.heap.size + 1, 1, none⟩ (.int .i64 e)) := by
  have e0 := heap_setCell_same w1 (w.heap.size + 1) 0 _ _ (.string x) h.p
  have e1 := heap_setCell_same _ (w.heap.size + 1) 1 _ _ (.int .i64 e) e0
  refine ⟨?_, ?_, (h.bel.setCell (p := ⟨w.heap.size + 1, 0, none⟩) (Nat.le_succ _) _).setCell (p := ⟨w.heap.size + 1, 1, none⟩) (Nat.le_succ _) _⟩
  · simp only [World.cell?, e1]; rfl
  · simp only [World.cell?, e1]; rfl
theorem scalar_says {c : Cx} {later : List BA} (hg : ∀ x, x ∈ c.globals ↔ x ∈ c.vars ∨ x ∈ c.arrays ∨ x ∈ later) (name : BA) : pr (scalarC c name) = if name ∈ c.own ∨ name ∈ c.vars then (⟨#[]⟩, 0) else if name ∈ c.arrays ∨ name ∈ later then (name, 10) else (name, 7) := by
  unfold scalarC
  by_cases g1 : name ∈ c.own ∨ name ∈ c.vars
  · rw [if_pos g1.symm, if_pos g1]; rfl
  · rw [if_neg (fun x => g1 x.symm), if_neg g1]
    by_cases g2 : name ∈ c.arrays ∨ name ∈ later
    · rw [if_pos ((hg name).2 (.inr g2)), if_pos g2]; rfl
    · rw [if_neg (fun x => by rcases (hg name).1 x with x | x; exact g1 (.inr x); exact g2 x), if_neg g2]; rfl
theorem indexed_says {c : Cx} {later : List BA} (hg : ∀ x, x ∈ c.globals ↔ x ∈ c.vars ∨ x ∈ c.arrays ∨ x ∈ later) (name : BA) : pr (arrayC c name) = if name ∈ c.arrays then (⟨#[]⟩, 0) else if name ∈ c.own ∨ name ∈ c.vars ∨ name ∈ later then (name, 10) else (name, 7) := by
  unfold arrayC
  by_cases g1 : name ∈ c.arrays
  · rw [if_pos g1, if_pos g1]; rfl
  · rw [if_neg g1, if_neg g1]
    by_cases g2 : name ∈ c.own ∨ name ∈ c.vars ∨ name ∈ later
    · rw [if_pos, if_pos g2]; rfl
      rcases g2 with g | g | g
      · exact .inr g
      · exact .inl ((hg name).2 (.inl g))
      · exact .inl ((hg name).2 (.inr (.inr g)))
    · rw [if_neg, if_neg g2]; rfl
      rintro (g | g)
      · rcases (hg name).1 g with g | g | g
        · exact g2 (.inr (.inl g))
        · exact g1 g
        · exact g2 (.inr (.inr g))
      · exact g2 (.inl g)
-- WALKS
set_option maxHeartbeats 4000000 in
theorem rscalar_any {w : World} {s1 s2 s3 s4 s5 : Value} {c : Cx} {fu : List Fu} {later : List BA} (h : ScAt w s1 s2 s3 s4 s5 c fu later) (name : ByteArray) :
    Calls Try.prog 52 #[scV c s1 s2 s3 s4 s5, .string name] w fun e w' => e = .returned (probV (pr (scalarC c name))) ∧ Below w.heap.size w w' := by
  obtain ⟨⟨a1, c1, rfl⟩, ⟨a2, c2, rfl⟩, ⟨a3, c3, rfl⟩, ⟨a4, c4, rfl, k1, k2⟩, a5, c5, rfl⟩ := h.slices
  have H := Keep.mk h
  unfold scV
  have HQ := Keep.mk (scalar_says h.glob name)
  generalize pr (scalarC c name) = q at *
  clear h
  go_enter Try.func52, Try.ntmps52
  have HB := Keep.mk (Boxes.made w c.name (.slice a1 c.own.length c1) (.slice a2 c.vars.length c2) (.slice a3 c.arrays.length c3) (.slice a4 fu.length c4) (.slice a5 later.length c5))
  go_upto_region 1 with (fail)
  generalize ((w.alloc (.cells #[.string c.name, .slice a1 c.own.length c1, .slice a2 c.vars.length c2, .slice a3 c.arrays.length c3, .slice a4 fu.length c4, .slice a5 later.length c5] 83)).alloc (.cells #[.string ⟨#[]⟩, .int .i64 0] 79)) = w1 at *
  have HS := Keep.mk (H.out.below HB.out.bel)
  have H1 := Keep.mk (has_any HS.out.own name)
  have H2 := Keep.mk (has_any HS.out.vars name)
  have H3 := Keep.mk (has_any HS.out.arrays name)
  have H5 := Keep.mk (has_any HS.out.lat name)
  have b1 := HB.out.c1
  have b2 := HB.out.c2
  have b3 := HB.out.c3
  have b5 := HB.out.c5
  have bl := HB.out.l0
  have pc0 : w1.cell? ⟨w.heap.size + 1, 0, none⟩ = some (.string ⟨#[]⟩) := by simp [World.cell?, HB.out.p]
  have pc1 : w1.cell? ⟨w.heap.size + 1, 1, none⟩ = some (.int .i64 0) := by simp [World.cell?, HB.out.p]
  have pf0 : w1.frozen? ⟨w.heap.size + 1, 0, none⟩ = false := by simp [World.frozen?, HB.out.p]
  have pf1 : w1.frozen? ⟨w.heap.size + 1, 1, none⟩ = false := by simp [World.frozen?, HB.out.p]
  have pl := HB.out.l1
  by_cases g1 : name ∈ c.own
  · have HE : Keep (q = (⟨#[]⟩, 0)) := ⟨by rw [HQ.out]; simp [g1]⟩
    rw [decide_eq_true g1] at H1
    clear g1
    go_wp2_with fail
    refine H1.out.mono ?_
    rintro _ w1 ⟨rfl, rfl⟩
    go_wp2_with fail
    have hp := HB.out.put (⟨#[]⟩) (0)
    generalize ((w1.setCell ⟨w.heap.size + 1, 0, none⟩ (.string (⟨#[]⟩))).setCell ⟨w.heap.size + 1, 1, none⟩ (.int .i64 (0))) = W at *
    obtain ⟨y0, y1, yb⟩ := hp
    refine bodyPost_ret (v := probV (⟨#[]⟩, 0)) (by simp [results, Try.results52, go_sem, y0, y1, probV]) rfl ⟨by rw [HE.out], yb⟩
  · rw [decide_eq_false g1] at H1
    have G1 := Keep.mk g1
    clear g1
    go_wp2_with fail
    refine H1.out.mono ?_
    rintro _ w1 ⟨rfl, rfl⟩
    by_cases g2 : name ∈ c.vars
    · have HE : Keep (q = (⟨#[]⟩, 0)) := ⟨by rw [HQ.out]; simp [G1.out, g2]⟩
      rw [decide_eq_true g2] at H2
      clear g2
      go_wp2_with fail
      refine H2.out.mono ?_
      rintro _ w1 ⟨rfl, rfl⟩
      go_wp2_with fail
      have hp := HB.out.put (⟨#[]⟩) (0)
      generalize ((w1.setCell ⟨w.heap.size + 1, 0, none⟩ (.string (⟨#[]⟩))).setCell ⟨w.heap.size + 1, 1, none⟩ (.int .i64 (0))) = W at *
      obtain ⟨y0, y1, yb⟩ := hp
      refine bodyPost_ret (v := probV (⟨#[]⟩, 0)) (by simp [results, Try.results52, go_sem, y0, y1, probV]) rfl ⟨by rw [HE.out], yb⟩
    · rw [decide_eq_false g2] at H2
      have G2 := Keep.mk g2
      clear g2
      go_wp2_with fail
      refine H2.out.mono ?_
      rintro _ w1 ⟨rfl, rfl⟩
      by_cases g3 : name ∈ c.arrays
      · have HE : Keep (q = (name, 10)) := ⟨by rw [HQ.out]; simp [G1.out, G2.out, g3]⟩
        rw [decide_eq_true g3] at H3
        clear g3
        go_wp2_with fail
        refine H3.out.mono ?_
        rintro _ w1 ⟨rfl, rfl⟩
        go_wp2_with fail
        have hp := HB.out.put (name) (10)
        generalize ((w1.setCell ⟨w.heap.size + 1, 0, none⟩ (.string (name))).setCell ⟨w.heap.size + 1, 1, none⟩ (.int .i64 (10))) = W at *
        obtain ⟨y0, y1, yb⟩ := hp
        refine bodyPost_ret (v := probV (name, 10)) (by simp [results, Try.results52, go_sem, y0, y1, probV]) rfl ⟨by rw [HE.out], yb⟩
      · rw [decide_eq_false g3] at H3
        have G3 := Keep.mk g3
        clear g3
        go_wp2_with fail
        refine H3.out.mono ?_
        rintro _ w1 ⟨rfl, rfl⟩
        by_cases g5 : name ∈ later
        · have HE : Keep (q = (name, 10)) := ⟨by rw [HQ.out]; simp [G1.out, G2.out, G3.out, g5]⟩
          rw [decide_eq_true g5] at H5
          clear g5
          go_wp2_with fail
          refine H5.out.mono ?_
          rintro _ w1 ⟨rfl, rfl⟩
          go_wp2_with fail
          have hp := HB.out.put (name) (10)
          generalize ((w1.setCell ⟨w.heap.size + 1, 0, none⟩ (.string (name))).setCell ⟨w.heap.size + 1, 1, none⟩ (.int .i64 (10))) = W at *
          obtain ⟨y0, y1, yb⟩ := hp
          refine bodyPost_ret (v := probV (name, 10)) (by simp [results, Try.results52, go_sem, y0, y1, probV]) rfl ⟨by rw [HE.out], yb⟩
        · rw [decide_eq_false g5] at H5
          have G5 := Keep.mk g5
          clear g5
          go_wp2_with fail
          refine H5.out.mono ?_
          rintro _ w1 ⟨rfl, rfl⟩
          have HE : Keep (q = (name, 7)) := ⟨by rw [HQ.out]; simp [G1.out, G2.out, G3.out, G5.out]⟩
          go_wp2_with fail
          have hp := HB.out.put (name) (7)
          generalize ((w1.setCell ⟨w.heap.size + 1, 0, none⟩ (.string (name))).setCell ⟨w.heap.size + 1, 1, none⟩ (.int .i64 (7))) = W at *
          obtain ⟨y0, y1, yb⟩ := hp
          refine bodyPost_ret (v := probV (name, 7)) (by simp [results, Try.results52, go_sem, y0, y1, probV]) rfl ⟨by rw [HE.out], yb⟩
set_option maxHeartbeats 4000000 in
theorem rindexed_any {w : World} {s1 s2 s3 s4 s5 : Value} {c : Cx} {fu : List Fu} {later : List BA} (h : ScAt w s1 s2 s3 s4 s5 c fu later) (name : ByteArray) :
    Calls Try.prog 53 #[scV c s1 s2 s3 s4 s5, .string name] w fun e w' => e = .returned (probV (pr (arrayC c name))) ∧ Below w.heap.size w w' := by
  obtain ⟨⟨a1, c1, rfl⟩, ⟨a2, c2, rfl⟩, ⟨a3, c3, rfl⟩, ⟨a4, c4, rfl, k1, k2⟩, a5, c5, rfl⟩ := h.slices
  have H := Keep.mk h
  unfold scV
  have HQ := Keep.mk (indexed_says h.glob name)
  generalize pr (arrayC c name) = q at *
  clear h
  go_enter Try.func53, Try.ntmps53
  have HB := Keep.mk (Boxes.made w c.name (.slice a1 c.own.length c1) (.slice a2 c.vars.length c2) (.slice a3 c.arrays.length c3) (.slice a4 fu.length c4) (.slice a5 later.length c5))
  go_upto_region 1 with (fail)
  generalize ((w.alloc (.cells #[.string c.name, .slice a1 c.own.length c1, .slice a2 c.vars.length c2, .slice a3 c.arrays.length c3, .slice a4 fu.length c4, .slice a5 later.length c5] 83)).alloc (.cells #[.string ⟨#[]⟩, .int .i64 0] 79)) = w1 at *
  have HS := Keep.mk (H.out.below HB.out.bel)
  have H1 := Keep.mk (has_any HS.out.own name)
  have H2 := Keep.mk (has_any HS.out.vars name)
  have H3 := Keep.mk (has_any HS.out.arrays name)
  have H5 := Keep.mk (has_any HS.out.lat name)
  have b1 := HB.out.c1
  have b2 := HB.out.c2
  have b3 := HB.out.c3
  have b5 := HB.out.c5
  have bl := HB.out.l0
  have pc0 : w1.cell? ⟨w.heap.size + 1, 0, none⟩ = some (.string ⟨#[]⟩) := by simp [World.cell?, HB.out.p]
  have pc1 : w1.cell? ⟨w.heap.size + 1, 1, none⟩ = some (.int .i64 0) := by simp [World.cell?, HB.out.p]
  have pf0 : w1.frozen? ⟨w.heap.size + 1, 0, none⟩ = false := by simp [World.frozen?, HB.out.p]
  have pf1 : w1.frozen? ⟨w.heap.size + 1, 1, none⟩ = false := by simp [World.frozen?, HB.out.p]
  have pl := HB.out.l1
  by_cases g3 : name ∈ c.arrays
  · have HE : Keep (q = (⟨#[]⟩, 0)) := ⟨by rw [HQ.out]; simp [g3]⟩
    rw [decide_eq_true g3] at H3
    clear g3
    go_wp2_with fail
    refine H3.out.mono ?_
    rintro _ w1 ⟨rfl, rfl⟩
    go_wp2_with fail
    have hp := HB.out.put (⟨#[]⟩) (0)
    generalize ((w1.setCell ⟨w.heap.size + 1, 0, none⟩ (.string (⟨#[]⟩))).setCell ⟨w.heap.size + 1, 1, none⟩ (.int .i64 (0))) = W at *
    obtain ⟨y0, y1, yb⟩ := hp
    refine bodyPost_ret (v := probV (⟨#[]⟩, 0)) (by simp [results, Try.results53, go_sem, y0, y1, probV]) rfl ⟨by rw [HE.out], yb⟩
  · rw [decide_eq_false g3] at H3
    have G3 := Keep.mk g3
    clear g3
    go_wp2_with fail
    refine H3.out.mono ?_
    rintro _ w1 ⟨rfl, rfl⟩
    by_cases g1 : name ∈ c.own
    · have HE : Keep (q = (name, 10)) := ⟨by rw [HQ.out]; simp [G3.out, g1]⟩
      rw [decide_eq_true g1] at H1
      clear g1
      go_wp2_with fail
      refine H1.out.mono ?_
      rintro _ w1 ⟨rfl, rfl⟩
      go_wp2_with fail
      have hp := HB.out.put (name) (10)
      generalize ((w1.setCell ⟨w.heap.size + 1, 0, none⟩ (.string (name))).setCell ⟨w.heap.size + 1, 1, none⟩ (.int .i64 (10))) = W at *
      obtain ⟨y0, y1, yb⟩ := hp
      refine bodyPost_ret (v := probV (name, 10)) (by simp [results, Try.results53, go_sem, y0, y1, probV]) rfl ⟨by rw [HE.out], yb⟩
    · rw [decide_eq_false g1] at H1
      have G1 := Keep.mk g1
      clear g1
      go_wp2_with fail
      refine H1.out.mono ?_
      rintro _ w1 ⟨rfl, rfl⟩
      by_cases g2 : name ∈ c.vars
      · have HE : Keep (q = (name, 10)) := ⟨by rw [HQ.out]; simp [G3.out, G1.out, g2]⟩
        rw [decide_eq_true g2] at H2
        clear g2
        go_wp2_with fail
        refine H2.out.mono ?_
        rintro _ w1 ⟨rfl, rfl⟩
        go_wp2_with fail
        have hp := HB.out.put (name) (10)
        generalize ((w1.setCell ⟨w.heap.size + 1, 0, none⟩ (.string (name))).setCell ⟨w.heap.size + 1, 1, none⟩ (.int .i64 (10))) = W at *
        obtain ⟨y0, y1, yb⟩ := hp
        refine bodyPost_ret (v := probV (name, 10)) (by simp [results, Try.results53, go_sem, y0, y1, probV]) rfl ⟨by rw [HE.out], yb⟩
      · rw [decide_eq_false g2] at H2
        have G2 := Keep.mk g2
        clear g2
        go_wp2_with fail
        refine H2.out.mono ?_
        rintro _ w1 ⟨rfl, rfl⟩
        by_cases g5 : name ∈ later
        · have HE : Keep (q = (name, 10)) := ⟨by rw [HQ.out]; simp [G3.out, G1.out, G2.out, g5]⟩
          rw [decide_eq_true g5] at H5
          clear g5
          go_wp2_with fail
          refine H5.out.mono ?_
          rintro _ w1 ⟨rfl, rfl⟩
          go_wp2_with fail
          have hp := HB.out.put (name) (10)
          generalize ((w1.setCell ⟨w.heap.size + 1, 0, none⟩ (.string (name))).setCell ⟨w.heap.size + 1, 1, none⟩ (.int .i64 (10))) = W at *
          obtain ⟨y0, y1, yb⟩ := hp
          refine bodyPost_ret (v := probV (name, 10)) (by simp [results, Try.results53, go_sem, y0, y1, probV]) rfl ⟨by rw [HE.out], yb⟩
        · rw [decide_eq_false g5] at H5
          have G5 := Keep.mk g5
          clear g5
          go_wp2_with fail
          refine H5.out.mono ?_
          rintro _ w1 ⟨rfl, rfl⟩
          have HE : Keep (q = (name, 7)) := ⟨by rw [HQ.out]; simp [G3.out, G1.out, G2.out, G5.out]⟩
          go_wp2_with fail
          have hp := HB.out.put (name) (7)
          generalize ((w1.setCell ⟨w.heap.size + 1, 0, none⟩ (.string (name))).setCell ⟨w.heap.size + 1, 1, none⟩ (.int .i64 (7))) = W at *
          obtain ⟨y0, y1, yb⟩ := hp
          refine bodyPost_ret (v := probV (name, 7)) (by simp [results, Try.results53, go_sem, y0, y1, probV]) rfl ⟨by rw [HE.out], yb⟩

/-- Three boxes: the scope, an expression, the result. -/
structure Boxes3 (w w1 : World) (name : ByteArray) (s1 s2 s3 s4 s5 : Value) (op : ByteArray) (num : Int) (nm : ByteArray) (u : Value) : Prop where
  bel : Below w.heap.size w w1
  c0 : w1.cell? ⟨w.heap.size, 0, none⟩ = some (.string name)
  c1 : w1.cell? ⟨w.heap.size, 1, none⟩ = some s1
  c2 : w1.cell? ⟨w.heap.size, 2, none⟩ = some s2
  c3 : w1.cell? ⟨w.heap.size, 3, none⟩ = some s3
  c4 : w1.cell? ⟨w.heap.size, 4, none⟩ = some s4
  c5 : w1.cell? ⟨w.heap.size, 5, none⟩ = some s5
  e0 : w1.cell? ⟨w.heap.size + 1, 0, none⟩ = some (.string op)
  e1 : w1.cell? ⟨w.heap.size + 1, 1, none⟩ = some (.int .u32 num)
  e2 : w1.cell? ⟨w.heap.size + 1, 2, none⟩ = some (.string nm)
  e3 : w1.cell? ⟨w.heap.size + 1, 3, none⟩ = some u
  p : w1.heap[w.heap.size + 1 + 1]? = some (.cells #[.string ⟨#[]⟩, .int .i64 0] 79 (0, 0))
  l0 : w.heap.size < w1.heap.size
  l1 : w.heap.size + 1 < w1.heap.size
  l2 : w.heap.size + 1 + 1 < w1.heap.size
def made3 (w : World) (name : ByteArray) (s1 s2 s3 s4 s5 : Value) (op : ByteArray) (num : Int) (nm : ByteArray) (u : Value) : World := ((w.alloc (.cells #[.string name, s1, s2, s3, s4, s5] 83)).alloc (.cells #[.string op, .int .u32 num, .string nm, u] 42)).alloc (.cells #[.string ⟨#[]⟩, .int .i64 0] 79)
theorem Boxes3.made (w : World) (name : ByteArray) (s1 s2 s3 s4 s5 : Value) (op : ByteArray) (num : Int) (nm : ByteArray) (u : Value) : Boxes3 w (made3 w name s1 s2 s3 s4 s5 op num nm u) name s1 s2 s3 s4 s5 op num nm u := by
  unfold made3
  have e0 := heap_alloc_new w (.cells #[.string name, s1, s2, s3, s4, s5] 83)
  have b0 : Below w.heap.size w (w.alloc (.cells #[.string name, s1, s2, s3, s4, s5] 83)) := (Below.refl _ _).alloc (Nat.le_refl _) _
  have z0 : (w.alloc (.cells #[.string name, s1, s2, s3, s4, s5] 83)).heap.size = w.heap.size + 1 := World.size_alloc ..
  generalize w.alloc (.cells #[.string name, s1, s2, s3, s4, s5] 83) = w0 at *
  have e1 := heap_alloc_new w0 (.cells #[.string op, .int .u32 num, .string nm, u] 42)
  have b1 : Below w0.heap.size w0 (w0.alloc (.cells #[.string op, .int .u32 num, .string nm, u] 42)) := (Below.refl _ _).alloc (Nat.le_refl _) _
  have z1 : (w0.alloc (.cells #[.string op, .int .u32 num, .string nm, u] 42)).heap.size = w0.heap.size + 1 := World.size_alloc ..
  generalize w0.alloc (.cells #[.string op, .int .u32 num, .string nm, u] 42) = w1 at *
  have e2 := heap_alloc_new w1 (.cells #[.string ⟨#[]⟩, .int .i64 0] 79)
  have b2 : Below w1.heap.size w1 (w1.alloc (.cells #[.string ⟨#[]⟩, .int .i64 0] 79)) := (Below.refl _ _).alloc (Nat.le_refl _) _
  have z2 : (w1.alloc (.cells #[.string ⟨#[]⟩, .int .i64 0] 79)).heap.size = w1.heap.size + 1 := World.size_alloc ..
  generalize w1.alloc (.cells #[.string ⟨#[]⟩, .int .i64 0] 79) = w2 at *
  rw [z0] at e1
  rw [z1, z0] at e2
  have f0 := (b2.block w.heap.size (by omega)).trans ((b1.block w.heap.size (by omega)).trans e0)
  have f1 := (b2.block (w.heap.size + 1) (by omega)).trans e1
  exact ⟨(b0.trans (b1.mono (by omega))).trans (b2.mono (by omega)), by simp [World.cell?, f0], by simp [World.cell?, f0], by simp [World.cell?, f0], by simp [World.cell?, f0], by simp [World.cell?, f0], by simp [World.cell?, f0],
    by simp [World.cell?, f1], by simp [World.cell?, f1], by simp [World.cell?, f1], by simp [World.cell?, f1], e2, by omega, by omega, by omega⟩
section
variable {w w1 w2 : World} {name : ByteArray} {s1 s2 s3 s4 s5 : Value} {op : ByteArray} {num : Int} {nm : ByteArray} {u : Value}
theorem Boxes3.later (h : Boxes3 w w1 name s1 s2 s3 s4 s5 op num nm u) (hb : Below w1.heap.size w1 w2) : Boxes3 w w2 name s1 s2 s3 s4 s5 op num nm u := by
  have hz := hb.size
  have l0 := h.l0
  have l1 := h.l1
  have l2 := h.l2
  exact ⟨h.bel.trans (hb.mono h.bel.size), (hb.cell (p := ⟨w.heap.size, 0, none⟩) l0).trans h.c0, (hb.cell (p := ⟨w.heap.size, 1, none⟩) l0).trans h.c1, (hb.cell (p := ⟨w.heap.size, 2, none⟩) l0).trans h.c2, (hb.cell (p := ⟨w.heap.size, 3, none⟩) l0).trans h.c3, (hb.cell (p := ⟨w.heap.size, 4, none⟩) l0).trans h.c4, (hb.cell (p := ⟨w.heap.size, 5, none⟩) l0).trans h.c5,
    (hb.cell (p := ⟨w.heap.size + 1, 0, none⟩) l1).trans h.e0, (hb.cell (p := ⟨w.heap.size + 1, 1, none⟩) l1).trans h.e1, (hb.cell (p := ⟨w.heap.size + 1, 2, none⟩) l1).trans h.e2, (hb.cell (p := ⟨w.heap.size + 1, 3, none⟩) l1).trans h.e3, (hb.block (w.heap.size + 1 + 1) l2).trans h.p, by omega, by omega, by omega⟩
theorem Boxes3.put (h : Boxes3 w w1 name s1 s2 s3 s4 s5 op num nm u) (x : ByteArray) (e : Int) :
    ((w1.setCell ⟨w.heap.size + 1 + 1, 0, none⟩ (.string x)).setCell ⟨w.heap.size + 1 + 1, 1, none⟩ (.int .i64 e)).cell? ⟨w.heap.size + 1 + 1, 0, none⟩ = some (.string x) ∧ ((w1.setCell ⟨w.heap.size + 1 + 1, 0, none⟩ (.string x)).setCell ⟨w.heap.size + 1 + 1, 1, none⟩ (.int .i64 e)).cell? ⟨w.heap.size + 1 + 1, 1, none⟩ = some (.int .i64 e) ∧
    Below w.heap.size w ((w1.setCell ⟨w.heap.size + 1 + 1, 0, none⟩ (.string x)).setCell ⟨w.heap.size + 1 + 1, 1, none⟩ (.int .i64 e)) := by
  have e0 := heap_setCell_same w1 (w.heap.size + 1 + 1) 0 _ _ (.string x) h.p
  have e1 := heap_setCell_same _ (w.heap.size + 1 + 1) 1 _ _ (.int .i64 e) e0
  refine ⟨?_, ?_, (h.bel.setCell (p := ⟨w.heap.size + 1 + 1, 0, none⟩) (by show w.heap.size ≤ w.heap.size + 1 + 1; omega) _).setCell (p := ⟨w.heap.size + 1 + 1, 1, none⟩) (by show w.heap.size ≤ w.heap.size + 1 + 1; omega) _⟩
  · simp only [World.cell?, e1]; rfl
  · simp only [World.cell?, e1]; rfl
end
/-- What called says, by what comes of the search for the function. -/
theorem called_says {c : Cx} {fu : List Fu} {name : BA} (hfs : ∀ x, (lookF x c.funcs).map Sm.params = (fu.find? (fun f => decide (f.name = x))).map (fun f => f.params.length)) (ns : List Nat) (d : Nat) :
    pr (callC c name ns d) = if name = sIn then (if ns.length = 0 then ((⟨#[]⟩, 0) : Viol) else (name, 1)) else if name = sOut then (if ns.length = 1 then ((⟨#[]⟩, 0) : Viol) else (name, 1)) else
      match fu.find? (fun f => decide (f.name = name)) with
      | some f => if ns.length = f.params.length then ((⟨#[]⟩, 0) : Viol) else (name, 1)
      | none => if name ∈ c.own ∨ name ∈ c.vars ∨ name ∈ c.arrays then (name, 10) else (name, 7) := by
  unfold callC
  by_cases g1 : name = sIn
  · rw [if_pos g1, if_pos g1]
    split
    · rfl
    · rfl
  rw [if_neg g1, if_neg g1]
  by_cases g2 : name = sOut
  · rw [if_pos g2, if_pos g2]
    split
    · rfl
    · rfl
  rw [if_neg g2, if_neg g2]
  have := hfs name
  cases h1 : lookF name c.funcs with
  | none =>
    rw [h1] at this
    cases h2 : fu.find? (fun f => decide (f.name = name)) with
    | none =>
      simp only
      by_cases g : name ∈ c.own ∨ name ∈ c.vars ∨ name ∈ c.arrays
      · rw [if_pos g, if_pos (by rcases g with g | g | g; exact .inr (.inr g); exact .inl g; exact .inr (.inl g))]; rfl
      · rw [if_neg g, if_neg (by rintro (h | h | h); exact g (.inr (.inl h)); exact g (.inr (.inr h)); exact g (.inl h))]; rfl
    | some f => rw [h2] at this; simp at this
  | some f =>
    rw [h1] at this
    cases h2 : fu.find? (fun f => decide (f.name = name)) with
    | none => rw [h2] at this; simp at this
    | some g =>
      rw [h2] at this
      simp only [Option.map_some, Option.some.injEq] at this
      simp only
      rw [this]
      split
      · rfl
      · rfl
set_option maxHeartbeats 8000000 in
theorem called_any {w : World} {s1 s2 s3 s4 s5 : Value} {c : Cx} {fu : List Fu} {later : List BA} (h : ScAt w s1 s2 s3 s4 s5 c fu later) (op : ByteArray) (num : Int) (name : ByteArray) (ua : Option Addr) (n uc : Nat) (ns : List Nat) (hn : ns.length = n) (d : Nat) :
    Calls Try.prog 67 #[scV c s1 s2 s3 s4 s5, .agg #[.string op, .int .u32 num, .string name, .slice ua n uc]] w fun e w' => e = .returned (probV (pr (callC c name ns d))) ∧ Below w.heap.size w w' := by
  obtain ⟨⟨a1, c1, rfl⟩, ⟨a2, c2, rfl⟩, ⟨a3, c3, rfl⟩, ⟨a4, c4, rfl, k1, k2⟩, a5, c5, rfl⟩ := h.slices
  have H := Keep.mk h
  have HQ := Keep.mk (called_says (c := c) (name := name) h.fs ns d)
  generalize pr (callC c name ns d) = q at *
  rw [hn] at HQ
  unfold maxLen at k2
  clear h hn
  go_enter Try.func67, Try.ntmps67
  have HB := Keep.mk (Boxes3.made w c.name (.slice a1 c.own.length c1) (.slice a2 c.vars.length c2) (.slice a3 c.arrays.length c3) (.slice a4 fu.length c4) (.slice a5 later.length c5) op num name (.slice ua n uc))
  unfold made3 at HB
  unfold scV
  go_upto_region 1 with (fail)
  generalize (((w.alloc (.cells #[.string c.name, .slice a1 c.own.length c1, .slice a2 c.vars.length c2, .slice a3 c.arrays.length c3, .slice a4 fu.length c4, .slice a5 later.length c5] 83)).alloc (.cells #[.string op, .int .u32 num, .string name, .slice ua n uc] 42)).alloc (.cells #[.string ⟨#[]⟩, .int .i64 0] 79)) = w1 at *
  have HF := Keep.mk (rfunction_any (H.out.below HB.out.bel) name)
  unfold scV at HF
  have c0 := HB.out.c0
  have c1' := HB.out.c1
  have c2' := HB.out.c2
  have c3' := HB.out.c3
  have c4' := HB.out.c4
  have c5' := HB.out.c5
  have e2' := HB.out.e2
  have l0 := HB.out.l0
  have l1 := HB.out.l1
  go_wp2_with fail
  refine HF.out.mono ?_
  clear c0 c1' c2' c3' c4' c5' e2' l0 l1
  rintro _ w2 ⟨i, rfl, hi, hb2⟩
  replace HB := Keep.mk (HB.out.later hb2)
  have HI := Keep.mk hi
  clear hb2 hi HF
  clear w1
  generalize w2 = w1 at *
  have HS := Keep.mk (H.out.below HB.out.bel)
  have H1 := Keep.mk (has_any HS.out.own name)
  have H2 := Keep.mk (has_any HS.out.vars name)
  have H3 := Keep.mk (has_any HS.out.arrays name)
  have b1 := HB.out.c1
  have b2 := HB.out.c2
  have b3 := HB.out.c3
  have b4 := HB.out.c4
  have e2 := HB.out.e2
  have e3 := HB.out.e3
  have l0 := HB.out.l0
  have l1 := HB.out.l1
  have pc0 : w1.cell? ⟨w.heap.size + 1 + 1, 0, none⟩ = some (.string ⟨#[]⟩) := by simp [World.cell?, HB.out.p]
  have pc1 : w1.cell? ⟨w.heap.size + 1 + 1, 1, none⟩ = some (.int .i64 0) := by simp [World.cell?, HB.out.p]
  have pf0 : w1.frozen? ⟨w.heap.size + 1 + 1, 0, none⟩ = false := by simp [World.frozen?, HB.out.p]
  have pf1 : w1.frozen? ⟨w.heap.size + 1 + 1, 1, none⟩ = false := by simp [World.frozen?, HB.out.p]
  have pl := HB.out.l2
  by_cases g1 : name = sIn
  · have f1 : (name.toList == [105, 110]) = true := by rw [eqs name (k := sIn) (by decide +kernel), decide_eq_true g1]
    by_cases gn : n = 0
    · have HE : Keep (q = (⟨#[]⟩, 0)) := ⟨by rw [HQ.out]; simp [g1, gn]⟩
      have qn : ((n : Int) != ((0 : Nat) : Int)) = false := by rw [gn]; simp
      clear gn g1
      go_wp2_with fail
      have hp := HB.out.put (⟨#[]⟩) (0)
      generalize ((w1.setCell ⟨w.heap.size + 1 + 1, 0, none⟩ (.string (⟨#[]⟩))).setCell ⟨w.heap.size + 1 + 1, 1, none⟩ (.int .i64 (0))) = W at *
      obtain ⟨y0, y1, yb⟩ := hp
      refine bodyPost_ret (v := probV (⟨#[]⟩, 0)) (by simp [results, Try.results67, go_sem, y0, y1, probV]) rfl ⟨by rw [HE.out], yb⟩
    · have HE : Keep (q = (name, 1)) := ⟨by rw [HQ.out]; simp [g1, gn]⟩
      have qn : ((n : Int) != ((0 : Nat) : Int)) = true := by simp; omega
      clear gn g1
      go_wp2_with fail
      have hp := HB.out.put (name) (1)
      generalize ((w1.setCell ⟨w.heap.size + 1 + 1, 0, none⟩ (.string (name))).setCell ⟨w.heap.size + 1 + 1, 1, none⟩ (.int .i64 (1))) = W at *
      obtain ⟨y0, y1, yb⟩ := hp
      refine bodyPost_ret (v := probV (name, 1)) (by simp [results, Try.results67, go_sem, y0, y1, probV]) rfl ⟨by rw [HE.out], yb⟩
  have f1 : (name.toList == [105, 110]) = false := by rw [eqs name (k := sIn) (by decide +kernel), decide_eq_false g1]
  have G1 := Keep.mk g1
  clear g1
  by_cases g2 : name = sOut
  · have f2 : (name.toList == [111, 117, 116]) = true := by rw [eqs name (k := sOut) (by decide +kernel), decide_eq_true g2]
    by_cases gn : n = 1
    · have HE : Keep (q = (⟨#[]⟩, 0)) := ⟨by rw [HQ.out, if_neg G1.out, if_pos g2, if_pos gn]⟩
      have qn : ((n : Int) != ((1 : Nat) : Int)) = false := by rw [gn]; simp
      clear gn g2
      go_wp2_with fail
      have hp := HB.out.put (⟨#[]⟩) (0)
      generalize ((w1.setCell ⟨w.heap.size + 1 + 1, 0, none⟩ (.string (⟨#[]⟩))).setCell ⟨w.heap.size + 1 + 1, 1, none⟩ (.int .i64 (0))) = W at *
      obtain ⟨y0, y1, yb⟩ := hp
      refine bodyPost_ret (v := probV (⟨#[]⟩, 0)) (by simp [results, Try.results67, go_sem, y0, y1, probV]) rfl ⟨by rw [HE.out], yb⟩
    · have HE : Keep (q = (name, 1)) := ⟨by rw [HQ.out, if_neg G1.out, if_pos g2, if_neg gn]⟩
      have qn : ((n : Int) != ((1 : Nat) : Int)) = true := by simp; omega
      clear gn g2
      go_wp2_with fail
      have hp := HB.out.put (name) (1)
      generalize ((w1.setCell ⟨w.heap.size + 1 + 1, 0, none⟩ (.string (name))).setCell ⟨w.heap.size + 1 + 1, 1, none⟩ (.int .i64 (1))) = W at *
      obtain ⟨y0, y1, yb⟩ := hp
      refine bodyPost_ret (v := probV (name, 1)) (by simp [results, Try.results67, go_sem, y0, y1, probV]) rfl ⟨by rw [HE.out], yb⟩
  have f2 : (name.toList == [111, 117, 116]) = false := by rw [eqs name (k := sOut) (by decide +kernel), decide_eq_false g2]
  have G2 := Keep.mk g2
  clear g2
  rcases HI.out with ⟨j, f, rfl, hfj, hfi⟩ | ⟨rfl, hfi⟩
  · have HFi := Keep.mk hfi
    obtain ⟨b, o, cap, up, ul, ub, hv, hb, x0, x1, x2, x3, hS1, hS2, nb, hS3⟩ := H.out.funcs.get hfj
    simp only [Value.slice.injEq, true_and] at hv
    obtain ⟨rfl, rfl⟩ := hv
    have z1 := (HB.out.bel.cell (p := ⟨b, o + j * 4 + 1, none⟩) hb).trans x1
    have zl : b < w1.heap.size := Nat.lt_of_lt_of_le hb HB.out.bel.size
    obtain ⟨v1, d1, rfl, _, _⟩ := hS1.len
    have j0 : (0 : Int) ≤ (j : Int) := by omega
    have j1 : (j : Int) < (fu.length : Int) := by have := (List.getElem?_eq_some_iff.1 hfj).1; omega
    clear hfi hfj hb x0 x1 x2 x3 hS1 hS2 hS3 HI
    generalize hpl : f.params.length = pl' at *
    have HPL := Keep.mk hpl
    clear hpl
    by_cases gn : n = pl'
    · have HE : Keep (q = (⟨#[]⟩, 0)) := ⟨by rw [HQ.out]; simp [G1.out, G2.out, HFi.out, gn, HPL.out]⟩
      have qn : ((n : Int) != ((pl' : Nat) : Int)) = false := by rw [gn]; simp
      clear gn
      go_wp2_with fail
      have hp := HB.out.put (⟨#[]⟩) (0)
      generalize ((w1.setCell ⟨w.heap.size + 1 + 1, 0, none⟩ (.string (⟨#[]⟩))).setCell ⟨w.heap.size + 1 + 1, 1, none⟩ (.int .i64 (0))) = W at *
      obtain ⟨y0, y1, yb⟩ := hp
      refine bodyPost_ret (v := probV (⟨#[]⟩, 0)) (by simp [results, Try.results67, go_sem, y0, y1, probV]) rfl ⟨by rw [HE.out], yb⟩
    · have HE : Keep (q = (name, 1)) := ⟨by rw [HQ.out]; simp [G1.out, G2.out, HFi.out, gn, HPL.out]⟩
      have qn : ((n : Int) != ((pl' : Nat) : Int)) = true := by simp; omega
      clear gn
      go_wp2_with fail
      have hp := HB.out.put (name) (1)
      generalize ((w1.setCell ⟨w.heap.size + 1 + 1, 0, none⟩ (.string (name))).setCell ⟨w.heap.size + 1 + 1, 1, none⟩ (.int .i64 (1))) = W at *
      obtain ⟨y0, y1, yb⟩ := hp
      refine bodyPost_ret (v := probV (name, 1)) (by simp [results, Try.results67, go_sem, y0, y1, probV]) rfl ⟨by rw [HE.out], yb⟩
  · have HFi := Keep.mk hfi
    clear hfi HI
    by_cases m1 : name ∈ c.own
    · have HE : Keep (q = (name, 10)) := ⟨by rw [HQ.out]; simp [G1.out, G2.out, HFi.out, m1]⟩
      rw [decide_eq_true m1] at H1
      clear m1
      go_wp2_with fail
      refine H1.out.mono ?_
      rintro _ w1 ⟨rfl, rfl⟩
      go_wp2_with fail
      have hp := HB.out.put (name) (10)
      generalize ((w1.setCell ⟨w.heap.size + 1 + 1, 0, none⟩ (.string (name))).setCell ⟨w.heap.size + 1 + 1, 1, none⟩ (.int .i64 (10))) = W at *
      obtain ⟨y0, y1, yb⟩ := hp
      refine bodyPost_ret (v := probV (name, 10)) (by simp [results, Try.results67, go_sem, y0, y1, probV]) rfl ⟨by rw [HE.out], yb⟩
    · rw [decide_eq_false m1] at H1
      have M1 := Keep.mk m1
      clear m1
      go_wp2_with fail
      refine H1.out.mono ?_
      rintro _ w1 ⟨rfl, rfl⟩
      by_cases m2 : name ∈ c.vars
      · have HE : Keep (q = (name, 10)) := ⟨by rw [HQ.out]; simp [G1.out, G2.out, HFi.out, M1.out, m2]⟩
        rw [decide_eq_true m2] at H2
        clear m2
        go_wp2_with fail
        refine H2.out.mono ?_
        rintro _ w1 ⟨rfl, rfl⟩
        go_wp2_with fail
        have hp := HB.out.put (name) (10)
        generalize ((w1.setCell ⟨w.heap.size + 1 + 1, 0, none⟩ (.string (name))).setCell ⟨w.heap.size + 1 + 1, 1, none⟩ (.int .i64 (10))) = W at *
        obtain ⟨y0, y1, yb⟩ := hp
        refine bodyPost_ret (v := probV (name, 10)) (by simp [results, Try.results67, go_sem, y0, y1, probV]) rfl ⟨by rw [HE.out], yb⟩
      · rw [decide_eq_false m2] at H2
        have M2 := Keep.mk m2
        clear m2
        go_wp2_with fail
        refine H2.out.mono ?_
        rintro _ w1 ⟨rfl, rfl⟩
        by_cases m3 : name ∈ c.arrays
        · have HE : Keep (q = (name, 10)) := ⟨by rw [HQ.out]; simp [G1.out, G2.out, HFi.out, M1.out, M2.out, m3]⟩
          rw [decide_eq_true m3] at H3
          clear m3
          go_wp2_with fail
          refine H3.out.mono ?_
          rintro _ w1 ⟨rfl, rfl⟩
          go_wp2_with fail
          have hp := HB.out.put (name) (10)
          generalize ((w1.setCell ⟨w.heap.size + 1 + 1, 0, none⟩ (.string (name))).setCell ⟨w.heap.size + 1 + 1, 1, none⟩ (.int .i64 (10))) = W at *
          obtain ⟨y0, y1, yb⟩ := hp
          refine bodyPost_ret (v := probV (name, 10)) (by simp [results, Try.results67, go_sem, y0, y1, probV]) rfl ⟨by rw [HE.out], yb⟩
        · rw [decide_eq_false m3] at H3
          have M3 := Keep.mk m3
          clear m3
          go_wp2_with fail
          refine H3.out.mono ?_
          rintro _ w1 ⟨rfl, rfl⟩
          have HE : Keep (q = (name, 7)) := ⟨by rw [HQ.out]; simp [G1.out, G2.out, HFi.out, M1.out, M2.out, M3.out]⟩
          go_wp2_with fail
          have hp := HB.out.put (name) (7)
          generalize ((w1.setCell ⟨w.heap.size + 1 + 1, 0, none⟩ (.string (name))).setCell ⟨w.heap.size + 1 + 1, 1, none⟩ (.int .i64 (7))) = W at *
          obtain ⟨y0, y1, yb⟩ := hp
          refine bodyPost_ret (v := probV (name, 7)) (by simp [results, Try.results67, go_sem, y0, y1, probV]) rfl ⟨by rw [HE.out], yb⟩
end Go.Proofs.Ytgimdbflpdmlmaa
