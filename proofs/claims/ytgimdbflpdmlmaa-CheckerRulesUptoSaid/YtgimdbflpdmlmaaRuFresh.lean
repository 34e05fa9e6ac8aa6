/- The reference's fresh. Condition: bounds on names and numbers. -/
import Derived.Test.YtgimdbflpdmlmaaRuName
import Derived.Test.YtgimdbflpdmlmaaRuExpr
namespace Go.Proofs.Ytgimdbflpdmlmaa
set_option maxRecDepth 100000
open Go.RowKit Go.Shelf Go.Proofs.Ytgimdbflpdmlmaa.Ck

theorem fresh_append : ∀ (a b known : List BA), globalsC known (a ++ b) = (globalsC known a).bind fun k => globalsC k b
  | [], b, known => by rw [List.nil_append, globalsC]; rfl
  | x :: a, b, known => by
    rw [List.cons_append, globalsC, globalsC]
    cases globalC known x with
    | bad v => rfl
    | ok k => exact fresh_append a b k
theorem globalsC_one (known : List BA) (x : BA) : globalsC known [x] = globalC known x := by
  rw [globalsC]
  cases globalC known x <;> rfl
theorem fresh_step {known l kn : List BA} {k : Nat} {x : BA} (h : globalsC known (l.take k) = .ok kn) (hx : l[k]? = some x) :
    (isName x = false → globalsC known l = .bad (x, 7)) ∧ (isName x = true → x ∈ kn → globalsC known l = .bad (x, 8)) ∧ (isName x = true → x ∉ kn → globalsC known (l.take (k + 1)) = .ok (kn ++ [x])) := by
  have hsplit : l = l.take k ++ (x :: l.drop (k + 1)) := by
    obtain ⟨hk2, he2⟩ := List.getElem?_eq_some_iff.1 hx
    rw [← he2, ← List.drop_eq_getElem_cons hk2, List.take_append_drop]
  have hl : globalsC known l = (globalC kn x).bind fun k' => globalsC k' (l.drop (k + 1)) := by
    conv => lhs; rw [hsplit]
    rw [fresh_append, h]
    show globalsC kn (x :: l.drop (k + 1)) = _
    rw [globalsC]
  refine ⟨fun hn => ?_, fun hn hm => ?_, fun hn hm => ?_⟩
  · rw [hl]; unfold globalC; rw [hn]; rfl
  · rw [hl]; unfold globalC; rw [hn, decide_eq_true hm]; rfl
  · rw [List.take_add_one, hx, Option.toList_some, fresh_append, h]
    show globalsC kn [x] = _
    rw [globalsC_one]
    unfold globalC
    rw [hn, decide_eq_false hm]; rfl
/-- The result's box. -/
structure PBox (w w1 : World) : Prop where
  bel : Below w.heap.size w w1
  p : w1.heap[w.heap.size]? = some (.cells #[.string ⟨#[]⟩, .int .i64 0] 79 (0, 0))
  l : w.heap.size < w1.heap.size
theorem PBox.made (w : World) : PBox w (w.alloc (.cells #[.string ⟨#[]⟩, .int .i64 0] 79)) :=
  ⟨(Below.refl _ _).alloc (Nat.le_refl _) _, heap_alloc_new w _, by simp⟩
theorem PBox.later {w w1 w2 : World} (h : PBox w w1) (hb : Below w1.heap.size w1 w2) : PBox w w2 :=
  ⟨h.bel.trans (hb.mono h.bel.size), (hb.block w.heap.size h.l).trans h.p, Nat.lt_of_lt_of_le h.l hb.size⟩
theorem PBox.put {w w1 : World} (h : PBox w w1) (x : ByteArray) (e : Int) :
    ((w1.setCell ⟨w.heap.size, 0, none⟩ (.string x)).setCell ⟨w.heap.size, 1, none⟩ (.int .i64 e)).cell? ⟨w.heap.size, 0, none⟩ = some (.string x) ∧ ((w1.setCell ⟨w.heap.size, 0, none⟩ (.string x)).setCell ⟨w.heap.size, 1, none⟩ (.int .i64 e)).cell? ⟨w.heap.size, 1, none⟩ = some (.int .i64 e) ∧
    Below w.heap.size w ((w1.setCell ⟨w.heap.size, 0, none⟩ (.string x)).setCell ⟨w.heap.size, 1, none⟩ (.int .i64 e)) := by
  have e0 := heap_setCell_same w1 w.heap.size 0 _ _ (.string x) h.p
  have e1 := heap_setCell_same _ w.heap.size 1 _ _ (.int .i64 e) e0
  refine ⟨?_, ?_, (h.bel.setCell (p := ⟨w.heap.size, 0, none⟩) (Nat.le_refl _) _).setCell (p := ⟨w.heap.size, 1, none⟩) (Nat.le_refl _) _⟩
  · simp only [World.cell?, e1]; rfl
  · simp only [World.cell?, e1]; rfl
theorem Strs.same {w w' : World} (hs : ∀ k : Nat, w'.heap[k]? = w.heap[k]?) {v : Value} {l : List ByteArray} (h : Strs w v l) : Strs w' v l := by
  obtain ⟨a, cap, rfl, h1, h2, h3⟩ := h
  refine ⟨a, cap, rfl, h1, h2, ?_⟩
  rcases h3 with h3 | ⟨b, o, rfl, hlt, hc⟩
  · exact .inl h3
  · refine .inr ⟨b, o, rfl, ?_, fun i s hi => ?_⟩
    · have e : w.heap[b]? = some w.heap[b] := Array.getElem?_eq_getElem hlt
      exact (Array.getElem?_eq_some_iff.1 ((hs b).trans e)).1
    · have := hc i s hi
      simp only [World.cell?] at this ⊢
      rw [hs b]
      exact this
/-- Nothing turns where the result is written as it was. -/
theorem PBox.same {w w1 : World} (h : PBox w w1) (k : Nat) : ((w1.setCell ⟨w.heap.size, 0, none⟩ (.string ⟨#[]⟩)).setCell ⟨w.heap.size, 1, none⟩ (.int .i64 0)).heap[k]? = w1.heap[k]? := by
  by_cases hk : k = w.heap.size
  · subst hk
    have e0 := heap_setCell_same w1 w.heap.size 0 _ _ (.string ⟨#[]⟩) h.p
    have e1 := heap_setCell_same _ w.heap.size 1 _ _ (.int .i64 0) e0
    exact e1.trans h.p.symm
  · exact (Below.heap_setCell _ ⟨w.heap.size, 1, none⟩ _ k (fun e => hk (by simpa using e))).trans (Below.heap_setCell w1 ⟨w.heap.size, 0, none⟩ _ k (fun e => hk (by simpa using e)))
/-- What fresh leaves. -/
def FreshEnd (w : World) (r : Res (List BA)) (e : Ending) (w' : World) : Prop := (∃ v, e = .returned (.tuple #[v, probV (pr r)]) ∧ (∃ a n c, v = .slice a n c) ∧ ∀ k, r = .ok k → Strs w' v k) ∧ Below w.heap.size w w'
set_option maxHeartbeats 16000000 in
theorem fresh_any {w : World} {v1 v2 : Value} {known l : List BA} (h1 : Strs w v1 known) (h2 : Strs w v2 l) (hn : ∀ x ∈ l, x.size ≤ maxLen) (hl : known.length + l.length ≤ 1000000000) :
    Calls Try.prog 31 #[v1, v2] w (FreshEnd w (globalsC known l)) := by
  obtain ⟨a1, c1, rfl, _, _⟩ := h1.len
  obtain ⟨a2, c2, rfl, _, _⟩ := h2.len
  have H1 := Keep.mk h1
  have H2 := Keep.mk h2
  have HN := Keep.mk hn
  obtain ⟨r, hr⟩ : ∃ r, r = globalsC known l := ⟨_, rfl⟩
  rw [← hr]
  have HR := Keep.mk hr
  have BAD : Keep (∀ v : Viol, r = .bad v → ∀ w' a n c, Below w.heap.size w w' → FreshEnd w r (.returned (.tuple #[.slice a n c, probV v])) w') := ⟨fun v h w' a n c hb => ⟨⟨_, by rw [h]; rfl, ⟨_, _, _, rfl⟩, fun k hk => by rw [h] at hk; cases hk⟩, hb⟩⟩
  clear h1 h2 hn hr
  obtain ⟨i0, hi, hz0, hz1, hz2⟩ := info_parts Try.infoStrS
  go_enter Try.func31, Try.ntmps31
  have HB := Keep.mk (PBox.made w)
  have HS := Keep.mk (H1.out.below HB.out.bel (Nat.le_refl _))
  go_upto_region 1 with (fail)
  generalize (w.alloc (.cells #[.string ⟨#[]⟩, .int .i64 0] 79)) = w1 at *
  go_wp2_with fail
  go_loopw [10, 0] (fun i s0 wr => ∃ (k : Nat) (kn : List BA), k ≤ l.length ∧ i = .int .i64 k ∧ kn.length = known.length + k ∧ Keep (globalsC known (l.take k) = .ok kn) ∧ Keep (Strs wr s0 kn) ∧ Keep (PBox w wr)) (fun i _ _ => l.length - (intOf i).toNat)
  case atStart => exact ⟨0, known, Nat.zero_le _, rfl, by omega, ⟨by rw [List.take_zero, globalsC]⟩, HS, HB⟩
  case round =>
    clear HS HB
    obtain ⟨k, kn, hk, rfl, hkn, HX, HS, HB⟩ := hrel
    obtain ⟨sa, sc, rfl, _, _⟩ := HS.out.len
    have HKN := Keep.mk hkn
    have hknb : kn.length ≤ 1000000000 := by omega
    clear hkn
    have pc0 : wr.cell? ⟨w.heap.size, 0, none⟩ = some (.string ⟨#[]⟩) := by simp [World.cell?, HB.out.p]
    have pc1 : wr.cell? ⟨w.heap.size, 1, none⟩ = some (.int .i64 0) := by simp [World.cell?, HB.out.p]
    have pf0 : wr.frozen? ⟨w.heap.size, 0, none⟩ = false := by simp [World.frozen?, HB.out.p]
    have pf1 : wr.frozen? ⟨w.heap.size, 1, none⟩ = false := by simp [World.frozen?, HB.out.p]
    have pl := HB.out.l
    by_cases hlt : k < l.length
    · have k0 : (0 : Int) ≤ k := by omega
      have k1 : (k : Int) < l.length := by omega
      obtain ⟨x, hxk⟩ : ∃ x, l[k]? = some x := ⟨_, List.getElem?_eq_getElem hlt⟩
      obtain ⟨b, o, cap, hv, hb, hc0⟩ := H2.out.get hxk
      simp only [Value.slice.injEq, true_and] at hv
      obtain ⟨rfl, rfl⟩ := hv
      have hc1 := (HB.out.bel.cell (p := ⟨b, o + k, none⟩) hb).trans hc0
      have hbl : b < wr.heap.size := Nat.lt_of_lt_of_le hb HB.out.bel.size
      have HSTEP := Keep.mk (fresh_step HX.out hxk)
      have HNm := Keep.mk (rname_any x wr (HN.out x (List.mem_of_getElem? hxk)))
      clear hc0 hxk
      go_upto_region 4 with (fail)
      clear hc1 hbl
      cases hnm : isName x with
      | false =>
        rw [if_neg (by rw [hnm]; decide)] at HNm
        have HE := Keep.mk (HR.out.trans (HSTEP.out.1 hnm))
        clear hnm
        go_wp2_with fail
        refine HNm.out.mono ?_
        rintro _ w4 ⟨rfl, hb4⟩
        clear pc0 pc1 pf0 pf1 pl
        replace HB := Keep.mk (HB.out.later hb4)
        clear hb4 HNm
        have pc0 : w4.cell? ⟨w.heap.size, 0, none⟩ = some (.string ⟨#[]⟩) := by simp [World.cell?, HB.out.p]
        have pc1 : w4.cell? ⟨w.heap.size, 1, none⟩ = some (.int .i64 0) := by simp [World.cell?, HB.out.p]
        have pf0 : w4.frozen? ⟨w.heap.size, 0, none⟩ = false := by simp [World.frozen?, HB.out.p]
        have pf1 : w4.frozen? ⟨w.heap.size, 1, none⟩ = false := by simp [World.frozen?, HB.out.p]
        have pl := HB.out.l
        go_wp2_with fail
        have hp := HB.out.put x 7
        generalize ((w4.setCell ⟨w.heap.size, 0, none⟩ (.string x)).setCell ⟨w.heap.size, 1, none⟩ (.int .i64 7)) = W at *
        obtain ⟨y0, y1, yb⟩ := hp
        refine bodyPost_ret (v := .tuple #[.slice none 0 0, probV (x, 7)]) (by simp [results, Try.results31, go_sem, y0, y1, probV]) rfl (BAD.out _ HE.out _ _ _ _ yb)
      | true =>
        rw [if_pos hnm] at HNm
        have HTR := Keep.mk hnm
        clear hnm
        go_wp2_with fail
        refine HNm.out.mono ?_
        rintro _ w4 ⟨rfl, hb4⟩
        clear pc0 pc1 pf0 pf1 pl
        replace HB := Keep.mk (HB.out.later hb4)
        replace HS := Keep.mk (HS.out.below hb4 (Nat.le_refl _))
        clear hb4 HNm
        have HH := Keep.mk (has_any HS.out x)
        have pc0 : w4.cell? ⟨w.heap.size, 0, none⟩ = some (.string ⟨#[]⟩) := by simp [World.cell?, HB.out.p]
        have pc1 : w4.cell? ⟨w.heap.size, 1, none⟩ = some (.int .i64 0) := by simp [World.cell?, HB.out.p]
        have pf0 : w4.frozen? ⟨w.heap.size, 0, none⟩ = false := by simp [World.frozen?, HB.out.p]
        have pf1 : w4.frozen? ⟨w.heap.size, 1, none⟩ = false := by simp [World.frozen?, HB.out.p]
        have pl := HB.out.l
        by_cases hm : x ∈ kn
        · rw [decide_eq_true hm] at HH
          have HE := Keep.mk (HR.out.trans (HSTEP.out.2.1 HTR.out hm))
          clear hm
          go_wp2_with fail
          refine HH.out.mono ?_
          rintro _ w4 ⟨rfl, rfl⟩
          go_wp2_with fail
          have hp := HB.out.put x 8
          generalize ((w4.setCell ⟨w.heap.size, 0, none⟩ (.string x)).setCell ⟨w.heap.size, 1, none⟩ (.int .i64 8)) = W at *
          obtain ⟨y0, y1, yb⟩ := hp
          refine bodyPost_ret (v := .tuple #[.slice none 0 0, probV (x, 8)]) (by simp [results, Try.results31, go_sem, y0, y1, probV]) rfl (BAD.out _ HE.out _ _ _ _ yb)
        · rw [decide_eq_false hm] at HH
          have HE := Keep.mk (HSTEP.out.2.2 HTR.out hm)
          clear hm
          go_wp2_with fail
          refine HH.out.mono ?_
          rintro _ w4 ⟨rfl, rfl⟩
          clear pc0 pc1 pf0 pf1 pl HH
          have HA0 : Keep ((w4.alloc (.cells #[] 9)).ownsRow w4.heap.size 9 1 (.slice (some ⟨w4.heap.size, 0, none⟩) 0 0) 0 []) := ⟨World.ownsRow_made (base := w4.heap.size) (e := 9) (size := 1) w4 #[] 0 (Nat.le_refl _) (by decide) rfl⟩
          have HBA : Keep (Below w4.heap.size w4 (w4.alloc (.cells #[] 9))) := ⟨(Below.refl _ _).alloc (Nat.le_refl _) _⟩
          go_upto_region 8 with (fail)
          go_wp2_with (at_builtin; first
            | ((refine wpList_append_slc rfl _ _ 22 rfl w4.heap.size 9 i0 (.string ⟨#[]⟩) 1 16 Try.underlying22 hi hz0 hz1 hz2 rfl (by decide) _ 0 [] rfl HA0.out _ kn.length (strCells kn) rfl (HS.out.slc.below HBA.out (Nat.le_refl _)) (strCells_one _) (by unfold maxLen; omega) (by omega) (by simp) ?_); intro v7 w7 hown7 hg7 hv7; have H7 := Keep.mk (And.intro hown7 (below_append HBA.out HBA.out.size HA0.out (Nat.le_refl _) hg7)); clear hown7 hg7 hv7)
            | ((refine wpList_append_slc rfl _ _ 22 rfl w4.heap.size 9 i0 (.string ⟨#[]⟩) 1 16 Try.underlying22 hi hz0 hz1 hz2 rfl (by decide) _ (0 + kn.length) ([] ++ strCells kn) rfl (World.ownsRow.alloc H7.out.1 _) _ 1 [.string x] rfl (Slc.made (t := 9) [.string x] (by decide) rfl) (by simp [Value.oneCell']) (by unfold maxLen; omega) (by omega) (by have := H7.out.2.size; simp; omega) ?_); intro v8 w8 hown8 hg8 hv8; have H8 := Keep.mk (And.intro hown8 (below_append (H7.out.2.alloc H7.out.2.size _) (by have := H7.out.2.size; simp; omega) (World.ownsRow.alloc H7.out.1 _) (Nat.le_refl _) hg8)); obtain ⟨a8, c8, rfl⟩ := ownsRow_slice hown8; clear hown8 hg8 hv8))
          have HN1 : Keep (Strs w8 (.slice a8 (kn.length + 1) c8) (kn ++ [x])) := ⟨by
            have : OwnStrs w4.heap.size w8 (.slice a8 (kn.length + 1) c8) (kn ++ [x]) := by
              unfold OwnStrs
              have := H8.out.1
              rw [Nat.zero_add, List.nil_append] at this
              rw [strCells_append, List.length_append]
              exact this
            exact this.strs⟩
          go_roundw
          case rel => exact ⟨k + 1, kn ++ [x], by omega, by go_num, by have := HKN.out; simp; omega, HE, HN1, ⟨HB.out.later H8.out.2⟩⟩
          case measure => simp [intOf]; omega
    · obtain rfl : k = l.length := by omega
      rw [List.take_length] at HX
      go_wp2_with fail
      have hp := HB.out.put ⟨#[]⟩ 0
      have hs := HB.out.same
      generalize ((wr.setCell ⟨w.heap.size, 0, none⟩ (.string ⟨#[]⟩)).setCell ⟨w.heap.size, 1, none⟩ (.int .i64 0)) = W at *
      obtain ⟨y0, y1, yb⟩ := hp
      refine bodyPost_ret (v := .tuple #[.slice sa kn.length sc, probV (⟨#[]⟩, 0)]) (by simp [results, Try.results31, go_sem, y0, y1, probV]) rfl ⟨⟨_, by rw [HR.out, HX.out]; rfl, ⟨_, _, _, rfl⟩, fun k hk => ?_⟩, yb⟩
      rw [HR.out, HX.out] at hk
      cases hk
      exact HS.out.same hs
end Go.Proofs.Ytgimdbflpdmlmaa
