/- CheckerIndependent: exchanging two neighboring functions that do not call each other keeps a valid program valid. Condition: a program of bulk at most 1048576. -/
import Derived.Test.YtgimdbflpdmlmaaCheckerScalars
import Derived.Test.YtgimdbflpdmlmaaCkThree
import Derived.Test.YtgimdbflpdmlmaaCkFnRow
namespace Go.Proofs.Ytgimdbflpdmlmaa
set_option maxRecDepth 100000
open Go.RowKit Go.Shelf Go.Proofs.Ytgimdbflpdmlmaa.Ck Go.ChangeShapes Go.WideShapes Go.ChangeAt

theorem fu_at {l : List Fu} {i : Nat} (h : i + 2 < l.length) : ∃ l1 f g l2, l = l1 ++ f :: g :: l2 ∧ l1.length = i ∧ l2 ≠ [] := by
  have e1 : l.drop i = l[i] :: l.drop (i + 1) := List.drop_eq_getElem_cons (by omega)
  have e2 : l.drop (i + 1) = l[i + 1] :: l.drop (i + 2) := List.drop_eq_getElem_cons (by omega)
  refine ⟨l.take i, l[i], l[i + 1], l.drop (i + 2), ?_, by simp; omega, fun h0 => ?_⟩
  · rw [← e2, ← e1, List.take_append_drop]
  · have := congrArg List.length h0
    simp at this
    omega
theorem row_form {w : World} {base : Nat} {e : TypeId} {size : Nat} {v : Value} {n : Nat} {xs : List Value} (h : w.ownsRow base e size v n xs) (hn : 0 < n) : ∃ g cap, v = .slice (some ⟨g, 0, none⟩) n cap ∧ base ≤ g ∧ g < w.heap.size := by
  rcases h.2 with ⟨_, h0⟩ | ⟨g, cap, cur, hv, hb, hg, _⟩
  · omega
  · exact ⟨g, cap, hv, hb, (Array.getElem?_eq_some_iff.1 hg).1⟩
theorem fits_swap {p : Pr} {l1 l2 : List Fu} {f g : Fu} (h : Fits p) (hfs : p.funcs = l1 ++ f :: g :: l2) : Fits ⟨p.vars, p.arrays, l1 ++ g :: f :: l2⟩ := by
  have hp : (l1 ++ g :: f :: l2).Perm p.funcs := by rw [hfs]; exact perm_swap l1 l2 f g
  refine ⟨fun x hx => h.names x ?_, ?_⟩
  · refine hx.imp id (Or.imp id ?_)
    rintro ⟨u, hu, hx⟩
    exact ⟨u, hp.mem_iff.1 hu, hx⟩
  · have := (hp.map fun f => 4 + f.params.length + f.locals.length + 5 * nodesS f.body).sum_nat
    simp only
    rw [this]
    exact h.total
/-- Two functions in boxes of their own. -/
structure TwoFu (w : World) (f g : Fu) (fp fl fb gp gl gb v8 v9 : Value) (wx : World) (F G : Nat) : Prop where
  at8 : v8 = .pointer (some ⟨F, 0, none⟩)
  at9 : v9 = .pointer (some ⟨G, 0, none⟩)
  hF : w.heap.size ≤ F
  hG : w.heap.size ≤ G
  f : wx.heap[F]? = some (.cells #[.string f.name, fp, fl, fb] 36 (0, 0))
  g : wx.heap[G]? = some (.cells #[.string g.name, gp, gl, gb] 36 (0, 0))
  bel : Below w.heap.size w wx
theorem heap_two (w : World) (o1 o2 : Obj) : ((w.alloc o1).alloc o2).drew.heap[w.heap.size]? = some o1 ∧ ((w.alloc o1).alloc o2).drew.heap[w.heap.size + 1]? = some o2 ∧ Below w.heap.size w ((w.alloc o1).alloc o2).drew := by
  refine ⟨?_, ?_, (((Below.refl _ _).alloc (Nat.le_refl _) _).alloc (by simp) _).drew⟩
  · exact (((Below.refl _ (w.alloc o1)).alloc (Nat.le_refl _) o2).block w.heap.size (by simp)).trans (heap_alloc_new w o1)
  · have := heap_alloc_new (w.alloc o1) o2
    rwa [World.size_alloc] at this
set_option maxHeartbeats 16000000 in
theorem checkerIndependent_any {w : World} {vs rs fs : Value} {p : Pr} (hp : PrAt w vs rs fs p) (hz : sizeP p ≤ 1000000000) (k : Nat) (hk8 : k ≤ 255) :
    Calls Try.prog 7 #[.agg #[vs, rs, fs], .int .u8 k] w fun e w' => e = .returned (.bool true) ∧ Below w.heap.size w w' := by
  have HP := Keep.mk hp
  obtain ⟨h1, h2, h3⟩ := hp
  obtain ⟨a1, c1, rfl, k1, k2⟩ := h1.len
  obtain ⟨a2, c2, rfl, k3, k4⟩ := h2.len
  obtain ⟨a3, c3, rfl, k5, k6⟩ := h3.len
  unfold maxLen at k2 k4 k6
  have H3 := Keep.mk h3
  have HZ := Keep.mk hz
  have HGS : Keep (∀ g ∈ p.funcs, szS g.body ≤ 1000000000) := ⟨fun g hg => by
    have h2 := fsum_mem (g := fuSz) hg
    have h3 : fuSz g = 1 + g.name.size / 8 + g.params.length + g.locals.length + szS g.body + eighths (g.params ++ g.locals) := rfl
    have h4 : sizeP p = p.vars.length + p.arrays.length + eighths p.vars + eighths (p.arrays.map (·.1)) + (p.funcs.map fuSz).sum := rfl
    omega⟩
  have HFL : Keep (p.funcs.length ≤ sizeP p) := ⟨by
    have : p.funcs.length ≤ (p.funcs.map fuSz).sum := by
      generalize p.funcs = l
      induction l with
      | nil => simp
      | cons f l ih =>
        have e1 : fuSz f = 1 + f.name.size / 8 + f.params.length + f.locals.length + szS f.body + eighths (f.params ++ f.locals) := rfl
        simp only [List.map_cons, List.sum_cons, List.length_cons]
        omega
    unfold sizeP; omega⟩
  clear h1 h2 h3 hz
  obtain ⟨w0, hw0⟩ : ∃ w0, w0 = (w.alloc (.cells #[.slice a1 p.vars.length c1, .slice a2 p.arrays.length c2, .slice a3 p.funcs.length c3] 26)) := ⟨_, rfl⟩
  have hb0 : Below w.heap.size w w0 := by rw [hw0]; exact (Below.refl _ _).alloc (Nat.le_refl _) _
  have hX : w0.heap[w.heap.size]? = some (.cells #[.slice a1 p.vars.length c1, .slice a2 p.arrays.length c2, .slice a3 p.funcs.length c3] 26 (0, 0)) := by rw [hw0]; exact heap_alloc_new w _
  have HS : Keep (∀ w', Below w0.heap.size w0 w' → w'.cell? ⟨w.heap.size, 0, none⟩ = some (.slice a1 p.vars.length c1) ∧ w'.cell? ⟨w.heap.size, 1, none⟩ = some (.slice a2 p.arrays.length c2) ∧ w'.cell? ⟨w.heap.size, 2, none⟩ = some (.slice a3 p.funcs.length c3) ∧ w.heap.size < w'.heap.size) := ⟨fun w' hb => by
    have e := (hb.block _ (Array.getElem?_eq_some_iff.1 hX).1).trans hX
    exact ⟨by simp [World.cell?, e], by simp [World.cell?, e], by simp [World.cell?, e], (Array.getElem?_eq_some_iff.1 e).1⟩⟩
  have HB0 := Keep.mk hb0
  have HW0 := Keep.mk hw0
  have HPA : Keep (∀ w', Below w0.heap.size w0 w' → PrAt w' (.slice a1 p.vars.length c1) (.slice a2 p.arrays.length c2) (.slice a3 p.funcs.length c3) p) := ⟨fun w' hb => HP.out.below (hb0.trans (hb.mono hb0.size))⟩
  clear hX hb0 hw0 HP
  go_enter Try.func7, Try.ntmps7
  go_upto_region 1 with (fail)
  rw [← HW0.out]
  clear HW0
  go_wp2_with fail
  refine (alive_any _).mono ?_
  rintro _ w1 ⟨rfl, hb1⟩
  have HB1 := Keep.mk hb1
  clear hb1
  have HSz := Keep.mk (sizeP_any (HPA.out _ HB1.out) HZ.out)
  obtain ⟨p0, p1, p2, pl⟩ := HS.out _ HB1.out
  go_wp2_with fail
  refine HSz.out.mono ?_
  rintro _ w2 ⟨rfl, hb2⟩
  have HB2 := Keep.mk (HB1.out.trans (hb2.mono HB1.out.size))
  clear hb2 HB1 HSz p0 p1 p2 pl
  obtain ⟨p0, p1, p2, pl⟩ := HS.out _ HB2.out
  by_cases h4 : sizeP p ≤ 400
  · have hq : ¬ (400 : Int) < (sizeP p : Int) := by omega
    have HF := Keep.mk (fits_of_size h4)
    have hfl : p.funcs.length ≤ 400 := by have := HFL.out; omega
    clear h4 HFL
    generalize sizeP p = sp at *
    by_cases hf3 : p.funcs.length < 3
    · have hq3 : (p.funcs.length : Int) < 3 := by omega
      have HBE := Keep.mk (HB0.out.trans (HB2.out.mono HB0.out.size))
      go_wp2_with fail
      go_ret
      exact ⟨rfl, HBE.out⟩
    · have hq3 : ¬ (p.funcs.length : Int) < 3 := by omega
      have HCk := Keep.mk (check_any (HPA.out _ HB2.out) HF.out)
      go_wp2_with fail
      refine HCk.out.mono ?_
      rintro _ w3 ⟨rfl, hb3⟩
      have HB3 := Keep.mk (HB2.out.trans (hb3.mono HB2.out.size))
      clear hb3 HB2 HCk p0 p1 p2 pl
      by_cases he : (check p).2 = 0
      · have HV := Keep.mk (check_zero.1 he)
        have hq2 : ((check p).2 != 0) = false := by simp [he]
        clear he
        generalize (check p).2 = ce at *
        generalize (check p).1 = cn at *
        obtain ⟨p0, p1, p2, pl⟩ := HS.out _ HB3.out
        have hm1 : (k : Int).tmod ((p.funcs.length : Int) - 2) = ((k % (p.funcs.length - 2) : Nat) : Int) := by
          have : (p.funcs.length : Int) - 2 = ((p.funcs.length - 2 : Nat) : Int) := by omega
          rw [this]; rfl
        have hm2 : (k : Int) % ((p.funcs.length : Int) - 2) = ((k % (p.funcs.length - 2) : Nat) : Int) := by
          have : (p.funcs.length : Int) - 2 = ((p.funcs.length - 2 : Nat) : Int) := by omega
          rw [this]; rfl
        have hlt : k % (p.funcs.length - 2) < p.funcs.length - 2 := Nat.mod_lt _ (by omega)
        have hne : ¬ (p.funcs.length : Int) - 2 = 0 := by omega
        generalize k % (p.funcs.length - 2) = i at *
        go_upto_region 9 with (fail)
        clear hm1 hm2 hne
        obtain ⟨l1, f, g, l2, hfs, hl1, hl2⟩ := fu_at (l := p.funcs) (i := i) (by omega)
        obtain ⟨cs, hsl, hrow⟩ := H3.out.slc
        have hrow' := hrow
        rw [hfs] at hrow'
        obtain ⟨cs1, cs2', rfl, hr1, hr2⟩ := hrow'.split
        obtain ⟨fp, fl, fb, cs3, rfl, hvf, gp, gl, gb, cs4, rfl, hvg, hr4⟩ := hr2
        have hcl : cs1.length = i * 4 := by rw [hr1.length, hl1]
        obtain ⟨_, _, hv, _, _, _, hc4⟩ := id hsl
        simp only [Value.slice.injEq, true_and] at hv
        obtain ⟨rfl, rfl⟩ := hv
        obtain ⟨b, o, rfl, hb, hc⟩ : ∃ b o, a3 = some ⟨b, o, none⟩ ∧ b < w.heap.size ∧ ∀ j u, (cs1 ++ Value.string f.name :: fp :: fl :: fb :: .string g.name :: gp :: gl :: gb :: cs4)[j]? = some u → w.cell? ⟨b, o + j, none⟩ = some u := by
          rcases hc4 with h | h
          · omega
          · exact h
        have hat : ∀ k u, (Value.string f.name :: fp :: fl :: fb :: .string g.name :: gp :: gl :: gb :: cs4)[k]? = some u → w.cell? ⟨b, o + (i * 4 + k), none⟩ = some u := fun k u h => hc _ _ (by
          rw [List.getElem?_append_right (by omega), hcl, Nat.add_sub_cancel_left]
          exact h)
        obtain ⟨⟨f1a, f1c, rfl⟩, ⟨f2a, f2c, rfl⟩, f3a, f3c, rfl⟩ := hvf.slices
        obtain ⟨⟨g1a, g1c, rfl⟩, ⟨g2a, g2c, rfl⟩, g3a, g3c, rfl⟩ := hvg.slices
        have x0 := hat 0 _ rfl
        have x1 := hat 1 _ rfl
        have x2 := hat 2 _ rfl
        have x3 := hat 3 _ rfl
        have y0 := hat 4 _ rfl
        have y1 := hat 5 _ rfl
        have y2 := hat 6 _ rfl
        have y3 := hat 7 _ rfl
        rw [show o + (i * 4 + 0) = o + i * 4 by omega] at x0
        rw [show o + (i * 4 + 1) = o + i * 4 + 1 by omega] at x1
        rw [show o + (i * 4 + 2) = o + i * 4 + 2 by omega] at x2
        rw [show o + (i * 4 + 3) = o + i * 4 + 3 by omega] at x3
        rw [show o + (i * 4 + 4) = o + (i + 1) * 4 by omega] at y0
        rw [show o + (i * 4 + 5) = o + (i + 1) * 4 + 1 by omega] at y1
        rw [show o + (i * 4 + 6) = o + (i + 1) * 4 + 2 by omega] at y2
        rw [show o + (i * 4 + 7) = o + (i + 1) * 4 + 3 by omega] at y3
        have HW3 := Keep.mk (HB0.out.trans (HB3.out.mono HB0.out.size))
        have HS9 : Keep (∀ w', Below w3.heap.size w3 w' → (w'.cell? ⟨w.heap.size, 2, none⟩ = some (.slice (some ⟨b, o, none⟩) p.funcs.length c3) ∧
            ((w'.cell? ⟨b, o + i * 4, none⟩ = some (.string f.name) ∧ w'.cell? ⟨b, o + i * 4 + 1, none⟩ = some (.slice f1a f.params.length f1c)) ∧ w'.cell? ⟨b, o + i * 4 + 2, none⟩ = some (.slice f2a f.locals.length f2c) ∧ w'.cell? ⟨b, o + i * 4 + 3, none⟩ = some (.slice f3a f.body.length f3c)) ∧
            ((w'.cell? ⟨b, o + (i + 1) * 4, none⟩ = some (.string g.name) ∧ w'.cell? ⟨b, o + (i + 1) * 4 + 1, none⟩ = some (.slice g1a g.params.length g1c)) ∧ w'.cell? ⟨b, o + (i + 1) * 4 + 2, none⟩ = some (.slice g2a g.locals.length g2c) ∧ w'.cell? ⟨b, o + (i + 1) * 4 + 3, none⟩ = some (.slice g3a g.body.length g3c))) ∧ Below w3.heap.size w3 w') := ⟨fun w' h => by
          have hbw := HW3.out.trans (h.mono HW3.out.size)
          exact ⟨⟨(HS.out _ (HB3.out.trans (h.mono HB3.out.size))).2.2.1, ⟨⟨(hbw.cell (p := ⟨b, o + i * 4, none⟩) hb).trans x0, (hbw.cell (p := ⟨b, o + i * 4 + 1, none⟩) hb).trans x1⟩, (hbw.cell (p := ⟨b, o + i * 4 + 2, none⟩) hb).trans x2, (hbw.cell (p := ⟨b, o + i * 4 + 3, none⟩) hb).trans x3⟩,
            ⟨(hbw.cell (p := ⟨b, o + (i + 1) * 4, none⟩) hb).trans y0, (hbw.cell (p := ⟨b, o + (i + 1) * 4 + 1, none⟩) hb).trans y1⟩, (hbw.cell (p := ⟨b, o + (i + 1) * 4 + 2, none⟩) hb).trans y2, (hbw.cell (p := ⟨b, o + (i + 1) * 4 + 3, none⟩) hb).trans y3⟩, h⟩⟩
        have HVF := Keep.mk hvf
        have HVG := Keep.mk hvg
        have HSL := Keep.mk hsl
        have HRW := Keep.mk hrow
        have HR12 := Keep.mk (And.intro hr1 (And.intro hr4 hcl))
        have HL := Keep.mk (And.intro hfs (And.intro hl1 hl2))
        have i0 : (0 : Int) ≤ (i : Int) := by omega
        have i1 : (i : Int) < (p.funcs.length : Int) := by omega
        have i2 : (i : Int) + 1 < (p.funcs.length : Int) := by omega
        have i3 : (0 : Int) ≤ (i : Int) + 1 := by omega
        have i4 : IntKind.i64.wrap ((i : Int) + 1) = (i : Int) + 1 := IntWalk.i64_in _ (by omega)
        have i5 : ((i : Int) + 1).toNat = i + 1 := by omega
        clear x0 x1 x2 x3 y0 y1 y2 y3 hvf hvg hsl hrow hrow' hr1 hr4 hcl p0 p1 p2 hl1 hl2 hfs hat hc hc4
        go_cut [8, 9] from 38 to 49 (fun v8 v9 wx => ∃ F G, TwoFu w3 f g (.slice f1a f.params.length f1c) (.slice f2a f.locals.length f2c) (.slice f3a f.body.length f3c) (.slice g1a g.params.length g1c) (.slice g2a g.locals.length g2c) (.slice g3a g.body.length g3c) v8 v9 wx F G)
        case first =>
          clear HVF HVG HSL HRW HR12 HL HPA HS HB3
          go_region_held3 (fun w' => (w'.cell? ⟨w.heap.size, 2, none⟩ = some (.slice (some ⟨b, o, none⟩) p.funcs.length c3) ∧
              ((w'.cell? ⟨b, o + i * 4, none⟩ = some (.string f.name) ∧ w'.cell? ⟨b, o + i * 4 + 1, none⟩ = some (.slice f1a f.params.length f1c)) ∧ w'.cell? ⟨b, o + i * 4 + 2, none⟩ = some (.slice f2a f.locals.length f2c) ∧ w'.cell? ⟨b, o + i * 4 + 3, none⟩ = some (.slice f3a f.body.length f3c)) ∧
              ((w'.cell? ⟨b, o + (i + 1) * 4, none⟩ = some (.string g.name) ∧ w'.cell? ⟨b, o + (i + 1) * 4 + 1, none⟩ = some (.slice g1a g.params.length g1c)) ∧ w'.cell? ⟨b, o + (i + 1) * 4 + 2, none⟩ = some (.slice g2a g.locals.length g2c) ∧ w'.cell? ⟨b, o + (i + 1) * 4 + 3, none⟩ = some (.slice g3a g.body.length g3c))) ∧ Below w3.heap.size w3 w')
            (first | with_reducible exact HS9.out _ (Below.refl w3.heap.size w3).drew | with_reducible exact HS9.out _ (Below.refl w3.heap.size w3) | with_reducible assumption | (refine HS9.out _ ?_; (repeat' (first | with_reducible exact Below.refl _ _ | with_reducible refine Below.drew ?_ | with_reducible refine Below.alloc ?_ ?_ _ | with_reducible refine Below.setCell ?_ ?_ _ | (simp; done) | (simp; omega))); done))
            (fail)
          · go_wp2
            go_meet
            obtain ⟨q1, q2, q3⟩ := heap_two w3 (.cells #[.string f.name, .slice f1a f.params.length f1c, .slice f2a f.locals.length f2c, .slice f3a f.body.length f3c] 36) (.cells #[.string g.name, .slice g1a g.params.length g1c, .slice g2a g.locals.length g2c, .slice g3a g.body.length g3c] 36)
            exact ⟨_, _, rfl, rfl, Nat.le_refl _, Nat.le_succ _, q1, q2, q3⟩
          · go_wp2
            go_meet
            obtain ⟨q1, q2, q3⟩ := heap_two w3 (.cells #[.string g.name, .slice g1a g.params.length g1c, .slice g2a g.locals.length g2c, .slice g3a g.body.length g3c] 36) (.cells #[.string f.name, .slice f1a f.params.length f1c, .slice f2a f.locals.length f2c, .slice f3a f.body.length f3c] 36)
            exact ⟨_, _, rfl, rfl, Nat.le_succ _, Nat.le_refl _, q2, q1, q3⟩
        case rest =>
        obtain ⟨F, G, hT⟩ := hcut
        obtain rfl := hT.at8
        obtain rfl := hT.at9
        have HT := Keep.mk hT
        clear hT HS9 i2 i3 i4 i5
        obtain ⟨_, _, ng, hng⟩ := HVG.out
        have HBc := Keep.mk (HB3.out.trans (HT.out.bel.mono HB3.out.size))
        have HWc := Keep.mk (HB0.out.trans (HBc.out.mono HB0.out.size))
        have hgsz := HGS.out g (by rw [HL.out.1]; simp)
        have HMe := Keep.mk (mentions_any f.name ng g.body _ wc (hng.below HWc.out (Nat.le_refl _)) hgsz)
        have m0 : wc.cell? ⟨F, 0, none⟩ = some (.string f.name) := by simp [World.cell?, HT.out.f]
        have m3 : wc.cell? ⟨G, 3, none⟩ = some (.slice g3a g.body.length g3c) := by simp [World.cell?, HT.out.g]
        have mf : F < wc.heap.size := (Array.getElem?_eq_some_iff.1 HT.out.f).1
        have mg : G < wc.heap.size := (Array.getElem?_eq_some_iff.1 HT.out.g).1
        clear hng hgsz
        go_wp2_with fail
        refine HMe.out.mono ?_
        rintro _ w5 ⟨rfl, hb5⟩
        have HB5 := Keep.mk (HBc.out.trans (hb5.mono HBc.out.size))
        have HFh := Keep.mk ((hb5.block F mf).trans HT.out.f)
        have HGh := Keep.mk ((hb5.block G mg).trans HT.out.g)
        have HFG := Keep.mk (And.intro HT.out.hF HT.out.hG)
        clear hb5 m0 m3 mf mg HMe HBc HWc HT
        cases hus : usesS f.name g.body with
        | true =>
          have HBE := Keep.mk (HB0.out.trans (HB5.out.mono HB0.out.size))
          clear hus
          go_wp2_with fail
          go_ret
          exact ⟨rfl, HBE.out⟩
        | false =>
          have HUS := Keep.mk hus
          have HVQ := Keep.mk (swap_valid HV.out HL.out.1 HL.out.2.2 hus)
          obtain ⟨p0, p1, p2, pl⟩ := HS.out _ HB5.out
          clear hus
          go_upto_region 13 with (fail)
          obtain ⟨Q, hQ⟩ : ∃ Q, Q = w5.heap.size := ⟨_, rfl⟩
          obtain ⟨wq, hwq⟩ : ∃ wq, wq = (w5.alloc (.cells #[.slice a1 p.vars.length c1, .slice a2 p.arrays.length c2, .slice (some ⟨b, o, none⟩) p.funcs.length c3] 26)) := ⟨_, rfl⟩
          have hqh : wq.heap[Q]? = some (.cells #[.slice a1 p.vars.length c1, .slice a2 p.arrays.length c2, .slice (some ⟨b, o, none⟩) p.funcs.length c3] 26 (0, 0)) := by rw [hwq, hQ]; exact heap_alloc_new w5 _
          have hqs : wq.heap.size = Q + 1 := by rw [hwq, hQ, World.size_alloc]
          have hbq : Below w5.heap.size w5 wq := by rw [hwq]; exact (Below.refl _ _).alloc (Nat.le_refl _) _
          have HBq := Keep.mk (HB5.out.trans (hbq.mono HB5.out.size))
          have HWq := Keep.mk (HB0.out.trans (HBq.out.mono HB0.out.size))
          have HFq := Keep.mk ((hbq.block F (Array.getElem?_eq_some_iff.1 HFh.out).1).trans HFh.out)
          have HGq := Keep.mk ((hbq.block G (Array.getElem?_eq_some_iff.1 HGh.out).1).trans HGh.out)
          have hFQ : F < Q ∧ G < Q := by rw [hQ]; exact ⟨(Array.getElem?_eq_some_iff.1 HFh.out).1, (Array.getElem?_eq_some_iff.1 HGh.out).1⟩
          rw [← hwq, ← hQ]
          have hwQ : w.heap.size < Q := by rw [hQ]; exact pl
          have HW0Q : Keep (w0.heap.size ≤ Q) := ⟨by rw [hQ]; exact HB5.out.size⟩
          clear hwq hbq HFh HGh p0 p1 p2 pl hQ
          obtain ⟨i0', hi', hz0, hz1, hz2⟩ := info_parts Try.infoFunc
          obtain ⟨p0, p1, p2, pl⟩ := HS.out _ HBq.out
          have HQS := Keep.mk hqs
          have HQH := Keep.mk hqh
          have HFQ := Keep.mk hFQ
          have hA0 : (wq.alloc (.cells #[] 36)).ownsRow (Q + 1) 36 4 (.slice (some ⟨wq.heap.size, 0, none⟩) 0 0) 0 [] := World.ownsRow_made (base := Q + 1) (e := 36) (size := 4) wq #[] 0 (by omega) (by decide) rfl
          have HA0 := Keep.mk hA0
          have hb0 : Below wq.heap.size wq (wq.alloc (.cells #[] 36)) := (Below.refl _ _).alloc (Nat.le_refl _) _
          have HBA := Keep.mk hb0
          have HFI : Keep (∀ w7, (wq.alloc (.cells #[] 36)).grownBy w7 (Value.slice (some ⟨wq.heap.size, 0, none⟩) 0 0).ownBlock → w7.cell? ⟨Q, 2, none⟩ = some (.slice (some ⟨b, o, none⟩) p.funcs.length c3) ∧ w7.frozen? ⟨Q, 2, none⟩ = false ∧ Q < w7.heap.size ∧ Below wq.heap.size wq w7 ∧ w7.heap[Q]? = some (.cells #[.slice a1 p.vars.length c1, .slice a2 p.arrays.length c2, .slice (some ⟨b, o, none⟩) p.funcs.length c3] 26 (0, 0))) := ⟨fun w7 hg => by
            have hb7 : Below wq.heap.size wq w7 := hb0.grown hg hb0.size (fun j hj => by cases hj; exact Nat.le_refl _)
            have e := (hb7.block Q (by omega)).trans hqh
            exact ⟨by simp [World.cell?, e], by simp [World.frozen?, e], (Array.getElem?_eq_some_iff.1 e).1, hb7, e⟩⟩
          have y2 : (wq.alloc (.cells #[] 36)).cell? ⟨w.heap.size, 2, none⟩ = some (.slice (some ⟨b, o, none⟩) p.funcs.length c3) := (hb0.cell (p := ⟨w.heap.size, 2, none⟩) (by show w.heap.size < _; omega)).trans p2
          have hnl : p.funcs.length ≤ 400 := hfl
          clear hA0 hb0 hqs hqh
          go_upto_region 14 with (at_builtin; go_must ((refine wpList_append_slc rfl _ _ 24 rfl (Q + 1) 36 i0' (.agg #[.string ⟨#[]⟩, .slice none 0 0, .slice none 0 0, .slice none 0 0]) 4 88 Try.underlying24 hi' hz0 hz1 hz2 rfl (by decide) _ 0 [] rfl HA0.out _ p.funcs.length _ rfl (HSL.out.below (HWq.out.trans (HBA.out.mono HWq.out.size)) (Nat.le_refl _)) HRW.out.one (by unfold maxLen; omega) (by omega) (by have := HQS.out; simp; omega) ?_); intro v7 w7 hown7 hg7 hv7; obtain ⟨a7, c7, rfl⟩ := ownsRow_slice hown7; have H7 := Keep.mk (HFI.out _ hg7); have n0 := H7.out.1; have n1 := H7.out.2.1; have n2 := H7.out.2.2.1; have HO7 := Keep.mk hown7; clear hown7 hg7 hv7))
          clear n0 n1 n2 y2 p0 p1 p2 pl HA0 HBA HFI
          rw [Nat.zero_add, List.nil_append] at HO7
          obtain ⟨R, _, hv7, hR1, hR2⟩ := row_form HO7.out (by omega)
          simp only [Value.slice.injEq, true_and] at hv7
          obtain ⟨rfl, rfl⟩ := hv7
          have hQR : Q ≠ R := by omega
          obtain ⟨w8, hw8⟩ : ∃ w8, w8 = w7.setCell ⟨Q, 2, none⟩ (.slice (some ⟨R, 0, none⟩) p.funcs.length c7) := ⟨_, rfl⟩
          have h8q : w8.heap[Q]? = some (.cells #[.slice a1 p.vars.length c1, .slice a2 p.arrays.length c2, .slice (some ⟨R, 0, none⟩) p.funcs.length c7] 26 (0, 0)) := by rw [hw8]; exact heap_setCell_same w7 Q 2 _ _ _ H7.out.2.2.2.2
          have h8o : w8.ownsRow (Q + 1) 36 4 (.slice (some ⟨R, 0, none⟩) p.funcs.length c7) p.funcs.length (cs1 ++ Value.string f.name :: .slice f1a f.params.length f1c :: .slice f2a f.locals.length f2c :: .slice f3a f.body.length f3c :: .string g.name :: .slice g1a g.params.length g1c :: .slice g2a g.locals.length g2c :: .slice g3a g.body.length g3c :: cs4) := by
            rw [hw8]
            exact ownsRow_setCell_below HO7.out (a := ⟨Q, 2, none⟩) (Nat.lt_succ_self Q) _
          have hb8 : Below Q wq w8 := by
            have hm : Below Q wq w7 := H7.out.2.2.2.1.mono (by have := HQS.out; omega)
            rw [hw8]
            exact hm.setCell (p := ⟨Q, 2, none⟩) (Nat.le_refl Q) _
          rw [← hw8]
          have H8F := Keep.mk ((hb8.block F HFQ.out.1).trans HFq.out)
          have H8G := Keep.mk ((hb8.block G HFQ.out.2).trans HGq.out)
          have HB8 := Keep.mk hb8
          have H8Q := Keep.mk h8q
          have H8O := Keep.mk h8o
          have hRne : R ≠ F ∧ R ≠ G := by have := HFQ.out; omega
          have hcl := HR12.out.2.2
          have r : ∀ k u, (Value.string f.name :: Value.slice f1a f.params.length f1c :: Value.slice f2a f.locals.length f2c :: Value.slice f3a f.body.length f3c :: Value.string g.name :: Value.slice g1a g.params.length g1c :: Value.slice g2a g.locals.length g2c :: Value.slice g3a g.body.length g3c :: cs4)[k]? = some u → w8.cell? ⟨R, i * 4 + k, none⟩ = some u := fun k u h => by
            have hh : (cs1 ++ Value.string f.name :: .slice f1a f.params.length f1c :: .slice f2a f.locals.length f2c :: .slice f3a f.body.length f3c :: .string g.name :: .slice g1a g.params.length g1c :: .slice g2a g.locals.length g2c :: .slice g3a g.body.length g3c :: cs4)[i * 4 + k]? = some u := by
              rw [List.getElem?_append_right (by omega), hcl, Nat.add_sub_cancel_left]; exact h
            have := World.ownsRow.cells h8o (g := R) rfl _ _ hh
            rwa [Addr.add_lit, Nat.zero_add] at this
          have r0 := r 0 _ rfl
          have r1 := r 1 _ rfl
          have r2 := r 2 _ rfl
          have r3 := r 3 _ rfl
          have r4 := r 4 _ rfl
          have r5 := r 5 _ rfl
          have r6 := r 6 _ rfl
          have r7 := r 7 _ rfl
          rw [Nat.add_zero] at r0
          rw [show i * 4 + 4 = (i + 1) * 4 by omega] at r4
          rw [show i * 4 + 5 = (i + 1) * 4 + 1 by omega] at r5
          rw [show i * 4 + 6 = (i + 1) * 4 + 2 by omega] at r6
          rw [show i * 4 + 7 = (i + 1) * 4 + 3 by omega] at r7
          have rf : ∀ j, w8.frozen? ⟨R, j, none⟩ = false := World.ownsRow.frozenAt h8o
          have rl : R < w8.heap.size := (World.ownsRow.lt h8o R rfl).2
          have HS14 : Keep (∀ w', w8.grownBy w' (some R) → (w'.cell? ⟨Q, 2, none⟩ = some (.slice (some ⟨R, 0, none⟩) p.funcs.length c7) ∧
              ((w'.cell? ⟨F, 0, none⟩ = some (.string f.name) ∧ w'.cell? ⟨F, 1, none⟩ = some (.slice f1a f.params.length f1c)) ∧ w'.cell? ⟨F, 2, none⟩ = some (.slice f2a f.locals.length f2c) ∧ w'.cell? ⟨F, 3, none⟩ = some (.slice f3a f.body.length f3c)) ∧
              ((w'.cell? ⟨G, 0, none⟩ = some (.string g.name) ∧ w'.cell? ⟨G, 1, none⟩ = some (.slice g1a g.params.length g1c)) ∧ w'.cell? ⟨G, 2, none⟩ = some (.slice g2a g.locals.length g2c) ∧ w'.cell? ⟨G, 3, none⟩ = some (.slice g3a g.body.length g3c))) ∧ w8.grownBy w' (some R)) := ⟨fun w' hg => by
            have eQ := (hg.block Q (Array.getElem?_eq_some_iff.1 h8q).1 (fun e => hQR (Option.some.inj e))).trans h8q
            have eF := (hg.block F (Array.getElem?_eq_some_iff.1 H8F.out).1 (fun e => hRne.1 (Option.some.inj e).symm)).trans H8F.out
            have eG := (hg.block G (Array.getElem?_eq_some_iff.1 H8G.out).1 (fun e => hRne.2 (Option.some.inj e).symm)).trans H8G.out
            refine ⟨⟨by simp [World.cell?, eQ], ⟨⟨by simp [World.cell?, eF], by simp [World.cell?, eF]⟩, by simp [World.cell?, eF], by simp [World.cell?, eF]⟩, ⟨⟨by simp [World.cell?, eG], by simp [World.cell?, eG]⟩, by simp [World.cell?, eG], by simp [World.cell?, eG]⟩⟩, hg⟩⟩
          have i2 : (i : Int) + 1 < (p.funcs.length : Int) := by omega
          have i3 : (0 : Int) ≤ (i : Int) + 1 := by omega
          have i4 : IntKind.i64.wrap ((i : Int) + 1) = (i : Int) + 1 := IntWalk.i64_in _ (by omega)
          have i5 : ((i : Int) + 1).toNat = i + 1 := by omega
          have HI := Keep.mk (And.intro hR1 (And.intro hwQ hlt))
          clear hw8 h8q h8o hb8 r hQR hRne hcl hR1 hR2 hFQ hwQ H7 HO7 HFq HGq
          go_cut [] from 60 to 71 (fun wx => wx.ownsRow (Q + 1) 36 4 (.slice (some ⟨R, 0, none⟩) p.funcs.length c7) p.funcs.length (cs1 ++ Value.string g.name :: .slice g1a g.params.length g1c :: .slice g2a g.locals.length g2c :: .slice g3a g.body.length g3c :: .string f.name :: .slice f1a f.params.length f1c :: .slice f2a f.locals.length f2c :: .slice f3a f.body.length f3c :: cs4) ∧ w8.grownBy wx (some R))
          case first =>
            go_region_held3 (fun w' => (w'.cell? ⟨Q, 2, none⟩ = some (.slice (some ⟨R, 0, none⟩) p.funcs.length c7) ∧
                ((w'.cell? ⟨F, 0, none⟩ = some (.string f.name) ∧ w'.cell? ⟨F, 1, none⟩ = some (.slice f1a f.params.length f1c)) ∧ w'.cell? ⟨F, 2, none⟩ = some (.slice f2a f.locals.length f2c) ∧ w'.cell? ⟨F, 3, none⟩ = some (.slice f3a f.body.length f3c)) ∧
                ((w'.cell? ⟨G, 0, none⟩ = some (.string g.name) ∧ w'.cell? ⟨G, 1, none⟩ = some (.slice g1a g.params.length g1c)) ∧ w'.cell? ⟨G, 2, none⟩ = some (.slice g2a g.locals.length g2c) ∧ w'.cell? ⟨G, 3, none⟩ = some (.slice g3a g.body.length g3c))) ∧ w8.grownBy w' (some R))
              (first | with_reducible exact HS14.out _ (grown_low (B := R) (Below.refl w8.heap.size w8).drew) | with_reducible assumption | (refine HS14.out _ ?_; (repeat' (first | with_reducible exact World.grownBy.refl _ _ | with_reducible refine grown_drew1 ?_ | with_reducible refine grown_set1 ?_)); done))
              (fail)
            all_goals (
              go_wp2
              go_meet
              exact row_swap H8O.out HR12.out.2.2 _ _ _ _ _ _ _ _)
          case rest =>
          have HC := Keep.mk hcut
          have hRw : w.heap.size ≤ R := by have := HI.out; omega
          have hRQ : Q ≠ R := by have := HI.out; omega
          have hqc := (hcut.2.block Q (Array.getElem?_eq_some_iff.1 H8Q.out).1 (fun e => hRQ (Option.some.inj e))).trans H8Q.out
          have hb9 : Below Q wq wc := HB8.out.grown hcut.2 (by have := HB8.out.size; have := HQS.out; omega) (fun j hj => by cases hj; have := HI.out; omega)
          have HWc := Keep.mk (HWq.out.trans (hb9.mono (by have := HI.out; omega)))
          have HBc := Keep.mk (HBq.out.trans (hb9.mono HW0Q.out))
          have hpr := HPA.out _ HBc.out
          have hlen : (l1 ++ g :: f :: l2).length = p.funcs.length := by rw [HL.out.1]; simp
          have hfn : FnsAt wc (.slice (some ⟨R, 0, none⟩) p.funcs.length c7) (l1 ++ g :: f :: l2) := by
            refine FnRow.fns (cs := cs1 ++ Value.string g.name :: .slice g1a g.params.length g1c :: .slice g2a g.locals.length g2c :: .slice g3a g.body.length g3c :: .string f.name :: .slice f1a f.params.length f1c :: .slice f2a f.locals.length f2c :: .slice f3a f.body.length f3c :: cs4) ?_ (by rw [hlen]; exact Slc.of_owns hcut.1)
            exact (HR12.out.1.below HWc.out).append ⟨_, _, _, _, rfl, HVG.out.below HWc.out, _, _, _, _, rfl, HVF.out.below HWc.out, HR12.out.2.1.below HWc.out⟩
          have HCQ := check_any (p := ⟨p.vars, p.arrays, l1 ++ g :: f :: l2⟩) (w := wc) (vs := .slice a1 p.vars.length c1) (rs := .slice a2 p.arrays.length c2) (fs := .slice (some ⟨R, 0, none⟩) p.funcs.length c7) ⟨hpr.1, hpr.2.1, hfn⟩ (fits_swap HF.out HL.out.1)
          rw [check_of_ok HVQ.out] at HCQ
          have HK := Keep.mk HCQ
          have n0 : wc.cell? ⟨Q, 0, none⟩ = some (.slice a1 p.vars.length c1) := by simp [World.cell?, hqc]
          have n1 : wc.cell? ⟨Q, 1, none⟩ = some (.slice a2 p.arrays.length c2) := by simp [World.cell?, hqc]
          have n2 : wc.cell? ⟨Q, 2, none⟩ = some (.slice (some ⟨R, 0, none⟩) p.funcs.length c7) := by simp [World.cell?, hqc]
          have nl : Q < wc.heap.size := (Array.getElem?_eq_some_iff.1 hqc).1
          clear hcut hqc hb9 hpr hlen hfn HCQ r0 r1 r2 r3 r4 r5 r6 r7 rf rl i2 i3 i4 i5 HC
          go_wp2_with fail
          refine HK.out.mono ?_
          rintro _ w10 ⟨rfl, hb10⟩
          have HBE := Keep.mk (HWc.out.trans (hb10.mono HWc.out.size))
          clear hb10
          go_wp2_with fail
          go_ret
          exact ⟨rfl, HBE.out⟩
      · have hq2 : ((check p).2 != 0) = true := by simp [he]
        have HBE := Keep.mk (HB0.out.trans (HB3.out.mono HB0.out.size))
        clear he
        generalize (check p).2 = ce at *
        generalize (check p).1 = cn at *
        go_wp2_with fail
        go_ret
        exact ⟨rfl, HBE.out⟩
  · have hq : (400 : Int) < (sizeP p : Int) := by omega
    have HBE := Keep.mk (HB0.out.trans (HB2.out.mono HB0.out.size))
    go_wp2_with fail
    go_ret
    exact ⟨rfl, HBE.out⟩

theorem CheckerIndependent_walk : LawWalkU 7 Try.f7 := by
  intro H enc W base args ds ps hval hA hsz hk _
  rw [Try.params7] at hA hval hsz
  obtain ⟨v0, vs0, d0, ds0, p0, q0, hargs, rfl, rfl, h0, r0⟩ := trodAll_cons hA
  obtain ⟨v1, vs1, d1, ds1, p1, q1, rfl, rfl, rfl, h1, r1⟩ := trodAll_cons r0
  obtain ⟨rfl, rfl, rfl⟩ := trodAll_nil r1
  obtain rfl : args = #[v0, v1] := by cases args; simp_all
  obtain ⟨vs, rs, fs, p, rfl, hp, _, hb⟩ := open_prog (hval 0 26 v0 rfl rfl) h0 (bulk_each hk (by simp))
  obtain ⟨n, rfl, rfl, rfl, hn⟩ := open_int Try.underlying5 (hval 1 5 v1 rfl rfl) h1
  have hn' : 0 ≤ n ∧ n ≤ 255 := by simpa [Lit.wf, IntKind.min, IntKind.max, IntKind.signed, IntKind.bits] using hn
  obtain ⟨n, rfl⟩ := Int.eq_ofNat_of_zero_le hn'.1
  exact checkerIndependent_any hp (sizeP_bulk hb) n (by omega)
end Go.Proofs.Ytgimdbflpdmlmaa
namespace Go.Proofs.Ytgimdbflpdmlmaa
open Go.ChangeShapes Go.WideShapes Go.ChangeAt Go.RowKit
set_option maxRecDepth 100000 in
theorem CheckerIndependent_lifted (os : Os) (started : os.Started) (H : Type) (enc : TypeId × Value → H) (F : Stop.Interp) :
    ReturnsInHanded {} Try.checked os 7 .any ((Rows.OpenSpec.upto Rows.checkerIndependentSpec).pre6 enc Try.prog Try.f7 Rows.checkerIndependentUptoRow.domain false) (((Rows.OpenSpec.upto Rows.checkerIndependentSpec).at F).post enc Try.prog Try.f7 false true false false) := by
  refine returns_upto (C := Try.checked) (s := Rows.OpenSpec.upto Rows.checkerIndependentSpec) (k := Rows.uptoSmall) rfl own started (by kernel_rfl) Try.func7
    (OpenSpec.witness (enc := enc) (C := Try.checked) (s := Rows.OpenSpec.upto Rows.checkerIndependentSpec) (k := Rows.uptoSmall) rfl false ⟨#[], #[.agg #[.slice none 0 0, .slice none 0 0, .slice none 0 0], .int .u8 0], []⟩ 8 (by kernel_rfl) (by kernel_rfl) (by kernel_rfl)
      (x := ([.agg [.nil, .nil, .nil], .lit (.int .u8 0)], [], [])) (by kernel_rfl) rfl (by kernel_rfl)) ?_
  intro W base args ds gs before hval hW hk hsz hsh
  exact law_contract_upto (s := Rows.checkerIndependentSpec) (by kernel_rfl) (by kernel_rfl) ⟨rfl, fun H ds h => by rw [Try.params7] at h; match ds, h with | [d0, d1], _ => rfl⟩ CheckerIndependent_walk W base args ds gs before hval hW hk hsz hsh
theorem CheckerIndependent_proved : Rows.CheckerIndependentUptoSaid :=
  OpenClaim.holds_of_cond 7 Try.f7 rfl rfl rfl rfl rfl rfl rfl ⟨rfl, rfl, rfl, rfl, rfl⟩ rfl rfl rfl rfl rfl (by kernel_rfl) Try.func7 (by kernel_rfl)
    (of_decide_eq_true (by kernel_rfl)) (by unfold Func.isWrapper; first | (rw [if_pos (by decide +kernel)]; kernel_rfl) | (rw [if_neg (by decide +kernel)]; exact ⟨rfl, rfl⟩))
    (fun os started H enc _ F => CheckerIndependent_lifted os started H enc F)
end Go.Proofs.Ytgimdbflpdmlmaa
