/- Put of the program. Condition: a valid session, bounds. -/
import Derived.Test.YtomlknjpaielgaaPutInv
import Derived.Test.YtomlknjpaielgaaSparseSplit
import Derived.Test.YtomlknjpaielgaaB2RefSum
import Derived.Test.YtomlknjpaielgaaB2Sum
import Derived.Test.YtomlknjpaielgaaStrOwn
import Derived.Deep.RegionHeld3
import Derived.StillTailTactics
namespace Go.Proofs.Ytomlknjpaielgaa
set_option maxRecDepth 100000
open Go.RowKit Go.Shelf Go.Proofs.Ytomlknjpaielgaa.Store Go.Proofs.Ytomlknjpaielgaa.Sparse

theorem goodSeg (s : List UInt8) : ∀ g ∈ segs s, (g.2 ≠ [] ∧ g.1 = 0) ∨ (g.2 = [] ∧ 32 ≤ g.1) := by
  have hd : ∀ a : List UInt8, ∀ g ∈ dataL a, (g.2 ≠ [] ∧ g.1 = 0) ∨ (g.2 = [] ∧ 32 ≤ g.1) := by
    intro a g hg
    unfold dataL at hg
    split at hg
    · cases hg
    · rename_i ha
      rw [List.mem_singleton] at hg
      subst hg
      exact .inl ⟨ha, rfl⟩
  unfold segs
  refine go_ind (p := fun a r => ∀ g ∈ go a r, (g.2 ≠ [] ∧ g.1 = 0) ∨ (g.2 = [] ∧ 32 ≤ g.1)) (fun a => by rw [go_nil]; exact hd a) (fun a r h ih => ?_) (fun a r e h ih => ?_) [] s
  · rw [go_hole h]
    intro g hg
    rcases List.mem_append.1 hg with hg | hg
    · exact hd a g hg
    · rcases List.mem_cons.1 hg with rfl | hg
      · exact .inr ⟨rfl, by simp; omega⟩
      · exact ih g hg
  · rw [go_step e h]; exact ih
theorem store_filled {g : Nat} {wd : World} {a0 : Value} {b0 : Int} {c0 : ByteArray} {a : Value} {b : Int} {c : ByteArray} (h : Arr wd g 27 (storeCells a0 b0 c0)) :
    Arr (((wd.setCell ⟨g, 0, none⟩ a).setCell ⟨g, 1, none⟩ (.int .i64 b)).setCell ⟨g, 2, none⟩ (.string c)) g 27 (storeCells a b c) ∧
      OnlyT [27] wd (((wd.setCell ⟨g, 0, none⟩ a).setCell ⟨g, 1, none⟩ (.int .i64 b)).setCell ⟨g, 2, none⟩ (.string c)) := by
  have h1 := OnlyT.setCell (OnlyT.refl [27] wd) (a := ⟨g, 0, none⟩) h (by simp) a
  have h2 := OnlyT.setCell h1 (a := ⟨g, 1, none⟩) (h.set 0 a) (by simp) (.int .i64 b)
  have h3 := OnlyT.setCell h2 (a := ⟨g, 2, none⟩) ((h.set 0 a).set 1 (.int .i64 b)) (by simp) (.string c)
  exact ⟨((h.set 0 a).set 1 (.int .i64 b)).set 2 (.string c), h3⟩
theorem Boxed.drew' {w : World} {B : Nat} {t : TypeId} {v : Value} (h : Boxed w B t v) : Boxed w.drew B t v := h
theorem result_still {B : Nat} {w : World} {v : Value} (h : Boxed w B 31 v) (wx : World) (hx : wx = w := by rfl) : Calls Try.prog 42 #[.pointer (some ⟨B, 0, none⟩)] wx fun e w' => e = .returned v ∧ w' = wx := by
  subst hx
  exact (result_any h).mono fun _ _ h => ⟨h.1, h.2.symm⟩
def bytesS (l : List ByteArray) : Nat := (l.map ByteArray.size).sum
theorem bytesS_flat : ∀ l : List (List UInt8), bytesS (l.map mkS) = l.flatten.length
  | [] => rfl
  | s :: l => by
    have := bytesS_flat l
    simp only [bytesS, List.map_cons, List.sum_cons, List.flatten_cons, List.length_append] at *
    rw [this, size_mkS]
theorem bytesS_drop {l : List ByteArray} {i : Nat} {s : ByteArray} (h : l[i]? = some s) : bytesS (l.drop i) = s.size + bytesS (l.drop (i + 1)) := by
  obtain ⟨hi, rfl⟩ := List.getElem?_eq_some_iff.1 h
  rw [List.drop_eq_getElem_cons hi]; simp only [bytesS, List.map_cons, List.sum_cons]
theorem bytesS_chunks (m : List UInt8) : bytesS (chunkS m) = m.length := by rw [chunkS, bytesS_flat, Chunk.split_flatten]
theorem chunkS_pos (m : List UInt8) : ∀ x ∈ chunkS m, 1 ≤ x.size := by
  intro x hx
  obtain ⟨c, hc, rfl⟩ := List.mem_map.1 hx
  rw [size_mkS]
  exact List.length_pos_iff.2 (Chunk.split_ne hc)
/-- What stands behind the first statement. -/
def PutBegun (w : World) (v : Value) (ses : Int) (st : ByteArray) (cs : List Chk) (v7 : Value) (wx : World) : Prop :=
  ∃ G cv, v7 = .pointer (some ⟨G, 0, none⟩) ∧ w.heap.size + 2 ≤ G ∧ Arr wx G 27 (storeCells cv ses st) ∧ OwnChks w.heap.size wx cv cs ∧ Arr wx w.heap.size 27 (storeCells v ses st) ∧
    Arr wx (w.heap.size + 1) 27 (storeCells (.slice none 0 0) 0 ⟨#[]⟩) ∧ Below w.heap.size w wx

theorem held_three {w wa wx w' : World} {a b c : Value} (hz : w.heap.size + 2 = wa.heap.size) (hb : Below wx.heap.size wx w') (h : (wx.cell? ⟨w.heap.size, 0, none⟩ = some a ∧ wx.cell? ⟨w.heap.size, 1, none⟩ = some b ∧ wx.cell? ⟨w.heap.size, 2, none⟩ = some c) ∧ Below wa.heap.size wa wx) :
    (w'.cell? ⟨w.heap.size, 0, none⟩ = some a ∧ w'.cell? ⟨w.heap.size, 1, none⟩ = some b ∧ w'.cell? ⟨w.heap.size, 2, none⟩ = some c) ∧ Below wa.heap.size wa w' := by
  have hl : w.heap.size < wx.heap.size := by have := h.2.size; omega
  exact ⟨⟨(hb.cell (p := ⟨w.heap.size, 0, none⟩) hl).trans h.1.1, (hb.cell (p := ⟨w.heap.size, 1, none⟩) hl).trans h.1.2.1, (hb.cell (p := ⟨w.heap.size, 2, none⟩) hl).trans h.1.2.2⟩, h.2.trans (hb.mono h.2.size)⟩
theorem held_three_alloc {w wa wx : World} {a b c : Value} {o : Obj} (hz : w.heap.size + 2 = wa.heap.size) (h : (wx.cell? ⟨w.heap.size, 0, none⟩ = some a ∧ wx.cell? ⟨w.heap.size, 1, none⟩ = some b ∧ wx.cell? ⟨w.heap.size, 2, none⟩ = some c) ∧ Below wa.heap.size wa wx) :
    ((wx.alloc o).cell? ⟨w.heap.size, 0, none⟩ = some a ∧ (wx.alloc o).cell? ⟨w.heap.size, 1, none⟩ = some b ∧ (wx.alloc o).cell? ⟨w.heap.size, 2, none⟩ = some c) ∧ Below wa.heap.size wa (wx.alloc o) :=
  held_three hz ((Below.refl _ _).alloc (Nat.le_refl _) o) h

theorem held_three_re {w wa wx : World} {a b c : Value} {o o' : Obj} (hz : w.heap.size + 2 = wa.heap.size) (hx : wa.heap.size ≤ wx.heap.size) (h : ((wx.alloc o).cell? ⟨w.heap.size, 0, none⟩ = some a ∧ (wx.alloc o).cell? ⟨w.heap.size, 1, none⟩ = some b ∧ (wx.alloc o).cell? ⟨w.heap.size, 2, none⟩ = some c) ∧ Below wa.heap.size wa (wx.alloc o)) :
    ((wx.alloc o').cell? ⟨w.heap.size, 0, none⟩ = some a ∧ (wx.alloc o').cell? ⟨w.heap.size, 1, none⟩ = some b ∧ (wx.alloc o').cell? ⟨w.heap.size, 2, none⟩ = some c) ∧ Below wa.heap.size wa (wx.alloc o') := by
  have hb : Below wa.heap.size (wx.alloc o) (wx.alloc o') := ⟨rfl, rfl, rfl, by simp, fun k hk => (Below.heap_alloc wx o' k (by omega)).trans (Below.heap_alloc wx o k (by omega)).symm⟩
  have hl : w.heap.size < wa.heap.size := by omega
  exact ⟨⟨(hb.cell (p := ⟨w.heap.size, 0, none⟩) hl).trans h.1.1, (hb.cell (p := ⟨w.heap.size, 1, none⟩) hl).trans h.1.2.1, (hb.cell (p := ⟨w.heap.size, 2, none⟩) hl).trans h.1.2.2⟩, h.2.trans hb⟩
theorem held_three_set {w wa wx : World} {a b c x y z : Value} (hz : w.heap.size + 2 = wa.heap.size) (h : (wx.cell? ⟨w.heap.size, 0, none⟩ = some a ∧ wx.cell? ⟨w.heap.size, 1, none⟩ = some b ∧ wx.cell? ⟨w.heap.size, 2, none⟩ = some c) ∧ Below wa.heap.size wa wx) :
    ((((wx.setCell ⟨wa.heap.size, 0, none⟩ x).setCell ⟨wa.heap.size, 1, none⟩ y).setCell ⟨wa.heap.size, 2, none⟩ z).cell? ⟨w.heap.size, 0, none⟩ = some a ∧
      (((wx.setCell ⟨wa.heap.size, 0, none⟩ x).setCell ⟨wa.heap.size, 1, none⟩ y).setCell ⟨wa.heap.size, 2, none⟩ z).cell? ⟨w.heap.size, 1, none⟩ = some b ∧
      (((wx.setCell ⟨wa.heap.size, 0, none⟩ x).setCell ⟨wa.heap.size, 1, none⟩ y).setCell ⟨wa.heap.size, 2, none⟩ z).cell? ⟨w.heap.size, 2, none⟩ = some c) ∧
      Below wa.heap.size wa (((wx.setCell ⟨wa.heap.size, 0, none⟩ x).setCell ⟨wa.heap.size, 1, none⟩ y).setCell ⟨wa.heap.size, 2, none⟩ z) := by
  have hb : Below wa.heap.size wx (((wx.setCell ⟨wa.heap.size, 0, none⟩ x).setCell ⟨wa.heap.size, 1, none⟩ y).setCell ⟨wa.heap.size, 2, none⟩ z) :=
    (((Below.refl _ wx).setCell (p := ⟨wa.heap.size, 0, none⟩) (Nat.le_refl _) _).setCell (p := ⟨wa.heap.size, 1, none⟩) (Nat.le_refl _) _).setCell (p := ⟨wa.heap.size, 2, none⟩) (Nat.le_refl _) _
  have hl : w.heap.size < wa.heap.size := by omega
  exact ⟨⟨(hb.cell (p := ⟨w.heap.size, 0, none⟩) hl).trans h.1.1, (hb.cell (p := ⟨w.heap.size, 1, none⟩) hl).trans h.1.2.1, (hb.cell (p := ⟨w.heap.size, 2, none⟩) hl).trans h.1.2.2⟩, h.2.trans hb⟩
theorem held_start3 {P : Nat} {wa : World} {a b c : Value} (h : (wa.cell? ⟨P, 0, none⟩ = some a ∧ wa.cell? ⟨P, 1, none⟩ = some b ∧ wa.cell? ⟨P, 2, none⟩ = some c) ∧ Below wa.heap.size wa wa) :
    (wa.drew.cell? ⟨P, 0, none⟩ = some a ∧ wa.drew.cell? ⟨P, 1, none⟩ = some b ∧ wa.drew.cell? ⟨P, 2, none⟩ = some c) ∧ Below wa.heap.size wa wa.drew := ⟨h.1, h.2.drew⟩
theorem held_three_allocd {w wa wx : World} {a b c : Value} {o : Obj} (hz : w.heap.size + 2 = wa.heap.size) (h : (wx.drew.cell? ⟨w.heap.size, 0, none⟩ = some a ∧ wx.drew.cell? ⟨w.heap.size, 1, none⟩ = some b ∧ wx.drew.cell? ⟨w.heap.size, 2, none⟩ = some c) ∧ Below wa.heap.size wa wx.drew) :
    ((wx.alloc o).drew.cell? ⟨w.heap.size, 0, none⟩ = some a ∧ (wx.alloc o).drew.cell? ⟨w.heap.size, 1, none⟩ = some b ∧ (wx.alloc o).drew.cell? ⟨w.heap.size, 2, none⟩ = some c) ∧ Below wa.heap.size wa (wx.alloc o).drew :=
  have h2 := held_three_alloc (o := o) hz h
  ⟨h2.1, ⟨h2.2.os, h2.2.tape, h2.2.output, h2.2.size, h2.2.block⟩⟩
theorem row_filled {base g : Nat} {w4 : World} {xs : List Value} {x y z cv : Value} {l : List Chk} (hg : Arr w4 g 27 xs) (hr : OwnChks base w4 cv l) :
    OwnChks base (((w4.setCell ⟨g, 0, none⟩ x).setCell ⟨g, 1, none⟩ y).setCell ⟨g, 2, none⟩ z) cv l := by
  have h1 := OnlyT.setCell (OnlyT.refl [27] w4) (a := ⟨g, 0, none⟩) hg (by simp) x
  have h2 := OnlyT.setCell h1 (a := ⟨g, 1, none⟩) (hg.set 0 x) (by simp) y
  have h3 := OnlyT.setCell h2 (a := ⟨g, 2, none⟩) ((hg.set 0 x).set 1 y) (by simp) z
  exact h3.row hr (by decide)
theorem zero_store {wa w4 : World} (hb : Below (wa.alloc (.cells #[.slice none 0 0, .int .i64 0, .string ⟨#[]⟩] 27)).drew.heap.size (wa.alloc (.cells #[.slice none 0 0, .int .i64 0, .string ⟨#[]⟩] 27)).drew w4) :
    Arr w4 wa.heap.size 27 (storeCells (.slice none 0 0) 0 ⟨#[]⟩) := (Arr.new wa 27 (storeCells (.slice none 0 0) 0 ⟨#[]⟩)).drew.below hb (by show wa.heap.size < (wa.alloc _).heap.size; simp)
theorem clone_more {wa wx : World} {v : Value} {l : List Chk} (h : Calls Try.prog 25 #[v] wx fun e w' => ∃ a' c', e = .returned (.slice a' l.length c') ∧ OwnChks wx.heap.size w' (.slice a' l.length c') l ∧ Below wx.heap.size wx w') (hz : wa.heap.size ≤ wx.heap.size) :
    Calls Try.prog 25 #[v] wx fun e w' => ∃ a' c', e = .returned (.slice a' l.length c') ∧ OwnChks wx.heap.size w' (.slice a' l.length c') l ∧ Below wx.heap.size wx w' ∧ wa.heap.size ≤ w'.heap.size :=
  h.mono fun _ _ ⟨a, c, h1, h2, h3⟩ => ⟨a, c, h1, h2, h3, Nat.le_trans hz h3.size⟩

set_option maxHeartbeats 8000000 in
theorem put_any {w : World} {v : Value} {cs : List Chk} {ses : Int} {st content : ByteArray} (h : Chks w v cs) (hs1 : 1 ≤ ses) (hs2 : ses ≤ 255) (hct : content.size ≤ 60000) (hfit : Fit content.size (cs, st, [])) :
    Calls Try.prog 13 #[.agg #[v, .int .i64 ses, .string st], .string content] w fun e w' => ∃ cv ev, e = .returned (.tuple #[.agg #[cv, .int .i64 ses, .string (putAll ses cs st content).2.1], ev, .int .i64 0]) ∧
      OwnChks w.heap.size w' cv (putAll ses cs st content).1 ∧ OwnExts w.heap.size w' ev (putAll ses cs st content).2.2 ∧ Below w.heap.size w w' := by
  obtain ⟨av, capv, rfl, _⟩ := h.parts
  have HS := Keep.mk h
  have HF := Keep.mk hfit
  have hcl : cs.length ≤ 1000000 := by have := hfit.few; simp only at this; omega
  clear h hfit
  go_enter Try.func13, Try.ntmps13
  go_upto_region 1 with (fail)
  obtain ⟨wa, hwa⟩ : ∃ wa, wa = (w.alloc (.cells #[.slice av cs.length capv, .int .i64 ses, .string st] 27)).alloc (.cells #[.slice none 0 0, .int .i64 0, .string ⟨#[]⟩] 27) := ⟨_, rfl⟩
  have hb1 : Below w.heap.size w (w.alloc (.cells #[.slice av cs.length capv, .int .i64 ses, .string st] 27)) := (Below.refl _ _).alloc (Nat.le_refl _) _
  have hA1 : Keep (Arr wa w.heap.size 27 (storeCells (.slice av cs.length capv) ses st)) := ⟨by rw [hwa]; exact (Arr.new w _ (storeCells (.slice av cs.length capv) ses st)).alloc _⟩
  have hA2 : Keep (Arr wa (w.heap.size + 1) 27 (storeCells (.slice none 0 0) 0 ⟨#[]⟩)) := ⟨by
    have := Arr.new (w.alloc (.cells #[.slice av cs.length capv, .int .i64 ses, .string st] 27)) 27 (storeCells (.slice none 0 0) 0 ⟨#[]⟩)
    rw [World.size_alloc] at this
    rw [hwa]; exact this⟩
  have hBa : Keep (Below w.heap.size w wa) := ⟨by rw [hwa]; exact hb1.alloc hb1.size _⟩
  have hza : w.heap.size + 2 = wa.heap.size := by rw [hwa]; simp
  have HSa := Keep.mk (HS.out.below hBa.out (Nat.le_refl _))
  rw [← hwa]
  clear hwa hb1
  go_cut [7] from 18 to 25 (fun v7 wx => PutBegun w (.slice av cs.length capv) ses st cs v7 wx)
  case first =>
    have ha0 := hA1.out.cell 0
    have ha1 := hA1.out.cell 1
    have ha2 := hA1.out.cell 2
    simp only [storeCells, List.getElem?_cons_zero, List.getElem?_cons_succ] at ha0 ha1 ha2
    have HFin : Keep (∀ (wx : World) (G : Nat) (cv : Value), Below wa.heap.size wa wx → w.heap.size + 2 ≤ G → Arr wx G 27 (storeCells cv ses st) → OwnChks wa.heap.size wx cv cs → PutBegun w (.slice av cs.length capv) ses st cs (.pointer (some ⟨G, 0, none⟩)) wx) := ⟨fun wx G cv hb hG hA hr =>
      ⟨G, cv, rfl, hG, hA, ownsRow_base hr (by omega), hA1.out.below hb hA1.out.lt, hA2.out.below hb hA2.out.lt, hBa.out.trans (hb.mono (by omega))⟩⟩
    clear hA1 hA2 hBa HF
    have HCl := fun (wx : World) (h : Below wa.heap.size wa wx) => clone_more (clone_any (HSa.out.below h (Nat.le_refl _)) hcl) h.size
    go_region_held3 (fun w' => (w'.cell? ⟨w.heap.size, 0, none⟩ = some (.slice av cs.length capv) ∧ w'.cell? ⟨w.heap.size, 1, none⟩ = some (.int .i64 ses) ∧ w'.cell? ⟨w.heap.size, 2, none⟩ = some (.string st)) ∧ Below wa.heap.size wa w')
      (first | with_reducible exact held_start3 ⟨⟨ha0, ha1, ha2⟩, Below.refl wa.heap.size wa⟩ | with_reducible exact held_three_set hza (by assumption) | with_reducible exact held_three hza hb4 (by assumption) | with_reducible exact held_three_alloc hza (by assumption) | with_reducible exact held_three_allocd hza (by assumption) | with_reducible exact held_three_re hza hz4 (by assumption) | with_reducible assumption)
      ((go_at_call 25; refine (HCl _ ?_).mono ?_; (exact And.right (by assumption)); rintro e w4 ⟨a4, c4, rfl, hcv, hb4, hz4⟩; (first | (have hg4 := zero_store hb4; have g40 := hg4.cell 0; have g41 := hg4.cell 1; have g42 := hg4.cell 2; have f40 := hg4.frozen 0; have f41 := hg4.frozen 1; have f42 := hg4.frozen 2; simp only [storeCells, List.getElem?_cons_zero, List.getElem?_cons_succ] at g40 g41 g42; have hlt4 := hg4.lt) | skip)))
    · go_wp2
      go_meet
      exact HFin.out _ _ _ (And.right (by assumption)) (by omega) (Arr.new w4 _ (storeCells (.slice a4 cs.length c4) ses st)) (World.ownsRow.alloc hcv _)
    · go_wp2
      go_meet
      exact HFin.out _ _ _ (And.right (by assumption)) (by omega) (((hg4.set 0 _).set 1 _).set 2 _) (row_filled hg4 (ownsRow_base hcv (by show wa.heap.size ≤ (wa.alloc _).heap.size; simp)))
  case rest =>
  obtain ⟨G, cv, rfl, hG, hGa, hrow, hpar, hres, hbel⟩ := hcut
  have hP0 := hpar.cell 0
  have hP1 := hpar.cell 1
  have hP2 := hpar.cell 2
  have hPf := hpar.frozen 1
  have HK := Keep.mk (And.intro hGa (And.intro hrow (And.intro hpar (And.intro hres hbel))))
  simp only [storeCells, List.getElem?_cons_zero, List.getElem?_cons_succ] at hP0 hP1 hP2
  have HSc := Keep.mk (HS.out.below hbel (Nat.le_refl _))
  clear hGa hrow hpar hres hbel hA1 hA2 hBa HSa hza wa HS
  have hs1' : ¬ ses < 1 := by omega
  have hs2' : ¬ (255 : Int) < ses := by omega
  have hct' : ¬ (65536 : Int) < (content.size : Int) := by omega
  go_upto_region 6 with (fail)
  clear hs1' hs2' hct'
  go_wp2_with fail
  refine (index_any HSc.out).mono ?_
  rintro e w2 ⟨M, rfl, hM1, hM2, hMd, hb2⟩
  have HD := Keep.mk hMd
  have HB2 := Keep.mk hb2
  clear hMd hb2 hP0 hP1 hP2 hPf
  go_wp2_with fail
  refine (collector_any _).mono ?_
  rintro e w3 ⟨rfl, hw3⟩
  have hMG : w.heap.size + 2 ≤ M := by have := HK.out.1.lt; omega
  have HI : Keep (PutInv w w3 G M w2.heap.size (.slice av cs.length capv) ses st cs cs st [] w3 cv (.slice none 0 0)) := ⟨by
    obtain ⟨h1, h2, h3, h4, h5⟩ := HK.out
    rw [← hw3]
    have hz := HB2.out.size
    exact ⟨(h3.below HB2.out h3.lt).alloc _, (h4.below HB2.out h4.lt).alloc _, (h1.below HB2.out h1.lt).alloc _, World.ownsRow.alloc (h2.below HB2.out) _, HD.out.below ((Below.refl _ _).alloc (Nat.le_refl _) _) hM2,
      ⟨Boxed.new _ _ _, World.ownsRow_nil _ _ _ _⟩, (h5.trans (HB2.out.mono h5.size)).alloc (Nat.le_trans h5.size hz) _, hG, hMG, by have := h1.lt; omega, KeepT.refl _⟩⟩
  clear hw3 HK HD HB2 hM1 hM2
  generalize w2.heap.size = B at *
  go_wp2_with fail
  refine (segSplit_any content w3 (by omega)).mono ?_
  rintro e w4 ⟨sv, rfl, hsv, hb4⟩
  obtain ⟨sa, sc, rfl⟩ := ownsRow_slice hsv
  have HI4 := Keep.mk (HI.out.below hb4).rebase
  have HSV := Keep.mk hsv
  have hsl : (segs content.data.toList).length ≤ 60000 := by have := length_segs content.data.toList; simp at this; omega
  clear hsv hb4 HI HSc
  have HG := Keep.mk (goodSeg content.data.toList)
  have HL : Keep ((expand (segs content.data.toList)).length = content.size) := ⟨by rw [expand_segs]; simp⟩
  have HPA := Keep.mk (show putAll ses cs st content = (segs content.data.toList).foldl (putS ses) (cs, st, []) from rfl)
  generalize segs content.data.toList = gs at *
  go_wp2_with fail
  go_loopw [48] (fun i wr => ∃ (k : Nat) (p : Acc) (cv ev : Value), k ≤ gs.length ∧ i = .int .i64 k ∧ Keep (p = (gs.take k).foldl (putS ses) (cs, st, [])) ∧ Keep (Fit (expand (gs.drop k)).length p) ∧ Keep (PutInv w w4 G M B (.slice av cs.length capv) ses st p.1 p.1 p.2.1 p.2.2 wr cv ev)) (fun i _ => gs.length - (intOf i).toNat)
  case atStart => exact ⟨0, _, _, _, Nat.zero_le _, rfl, ⟨rfl⟩, ⟨by rw [List.drop_zero, HL.out]; exact HF.out⟩, HI4⟩
  case round =>
    obtain ⟨k, p, cv, ev, hk, rfl, HP, HFt, HI⟩ := hrel
    clear HI4
    by_cases hlt : k < gs.length
    · have hrow := HI.out.kt.row HSV.out (by simp)
      have hsg := Segs.of_owns hrow
      obtain ⟨a', c', hv', hc1, hc2, hparts⟩ := hsg.parts
      simp only [Value.slice.injEq, true_and] at hv'
      obtain ⟨rfl, rfl⟩ := hv'
      obtain ⟨g, hgk⟩ : ∃ g, gs[k]? = some g := ⟨_, List.getElem?_eq_getElem hlt⟩
      obtain ⟨b, o, rfl, hb, c0, c1⟩ := hparts k g hgk
      have hgood := HG.out g (List.mem_of_getElem? hgk)
      have hstep : Keep (putS ses p g = (gs.take (k + 1)).foldl (putS ses) (cs, st, [])) := ⟨by rw [List.take_add_one, hgk, HP.out]; simp⟩
      have hexp : Keep ((expand (gs.drop k)).length = (g.2.length + g.1.toNat) + (expand (gs.drop (k + 1))).length) := ⟨by
        obtain ⟨hlt', hg'⟩ := List.getElem?_eq_some_iff.1 hgk
        rw [List.drop_eq_getElem_cons hlt', hg', expand_cons]; simp; omega⟩
      rw [hexp.out] at HFt
      generalize hrest : (expand (gs.drop (k + 1))).length = rest at *
      have HR := Keep.mk hrest
      clear hrest
      unfold maxLen at hc2
      have k0 : (0 : Int) ≤ k := by omega
      have k1 : (k : Int) < gs.length := by omega
      clear hrow hsg hparts hgk hexp HP HG
      obtain ⟨gn, gd⟩ := g
      rcases hgood with ⟨hd, hn⟩ | ⟨hd, hn⟩
      · simp only at hd hn
        subst hn
        have hde : (mkS gd).toList.isEmpty = false := by
          rw [toList_mkS, data_mkS]
          cases gd with
          | nil => exact absurd rfl hd
          | cons _ _ => rfl
        have hlen : gd.length = (mkS gd).size := (size_mkS gd).symm
        have hfold : Keep (putS ses p (0, gd) = (chunkS gd).foldl (putC ses) p) := ⟨if_neg hd⟩
        rw [hfold.out] at hstep
        have hlen' := Keep.mk hlen
        have hgdk := Keep.mk (data_mkS gd)
        clear hfold hlen hd
        go_upto_region 13 with (fail)
        have HI2 := Keep.mk (HI.out.alloc (.cells #[.int .i64 0, .string (mkS gd)] 50))
        have hgz : (mkS gd).size ≤ 1000000 := by have h1 := HFt.out.stream; have h2 := hlen'.out; simp only at h1; omega
        clear HI hde
        go_wp2_with fail
        refine (split_any (mkS gd) _ (by omega)).mono ?_
        rintro e w5 ⟨chv, rfl, hch, hb5⟩
        rw [hgdk.out] at hch
        obtain ⟨cha, chc, rfl⟩ := ownsRow_slice hch
        have HI5 := Keep.mk (HI2.out.below hb5)
        have HCH := Keep.mk hch
        have hchl : (chunkS gd).length ≤ 1000000 := by have := Chunk.split_length gd; have h2 := hlen'.out; simp only [chunkS, List.length_map]; omega
        have hsum := Keep.mk (bytesS_chunks gd)
        have hpos := Keep.mk (chunkS_pos gd)
        have hft5 : Keep (Fit (rest + bytesS (chunkS gd)) p) := ⟨by rw [hsum.out]; have := HFt.out; simp only [Int.toNat_zero, Nat.add_zero] at this; rwa [Nat.add_comm] at this⟩
        clear hch hb5 HI2 hsum hgdk hlen' HFt hgz
        generalize chunkS gd = ch at *
        go_wp2_with fail
        generalize hwo : wr = wo at *
        go_loopw [64] (fun i wr => ∃ (j : Nat) (q : Acc) (cv ev : Value), j ≤ ch.length ∧ i = .int .i64 j ∧ Keep (q = (ch.take j).foldl (putC ses) p) ∧ Keep (Fit (rest + bytesS (ch.drop j)) q) ∧ Keep (PutInv w w5 G M B (.slice av cs.length capv) ses st q.1 q.1 q.2.1 q.2.2 wr cv ev)) (fun i _ => ch.length - (intOf i).toNat)
        case atStart => exact ⟨0, _, _, _, Nat.zero_le _, rfl, ⟨rfl⟩, ⟨by rw [List.drop_zero]; exact hft5.out⟩, ⟨HI5.out.rebase⟩⟩
        case round =>
          obtain ⟨j, q, cv, ev, hj, rfl, HQ, HFq, HI⟩ := hrel
          by_cases hltj : j < ch.length
          · have hrow := HI.out.kt.row HCH.out (by simp)
            have hst := Strs.of_owns hrow
            obtain ⟨a', c', hv', hc1', hc2', hparts⟩ := hst.at
            simp only [Value.slice.injEq, true_and] at hv'
            obtain ⟨rfl, rfl⟩ := hv'
            obtain ⟨x, hxj⟩ : ∃ x, ch[j]? = some x := ⟨_, List.getElem?_eq_getElem hltj⟩
            obtain ⟨b2, o2, rfl, hb2, c2⟩ := hparts j x hxj
            have hxpos := hpos.out x (List.mem_of_getElem? hxj)
            have hstep2 : Keep (putC ses q x = (ch.take (j + 1)).foldl (putC ses) p) := ⟨by rw [List.take_add_one, hxj, HQ.out]; simp⟩
            have hbs := bytesS_drop hxj
            rw [hbs] at HFq
            have hfit3 : Keep (Fit (rest + bytesS (ch.drop (j + 1))) (putC ses q x)) := ⟨Fit.chunk (by have := HFq.out; rwa [show rest + (x.size + bytesS (ch.drop (j + 1))) = rest + bytesS (ch.drop (j + 1)) + x.size by omega] at this) hxpos⟩
            unfold maxLen at hc2'
            have j0 : (0 : Int) ≤ j := by omega
            have j1 : (j : Int) < ch.length := by omega
            have hxs : x.size ≤ 1000000 := by have := HFq.out.stream; omega
            clear hrow hst hparts hxj hbs HQ hft5 HI5
            go_upto_region 16 with (fail)
            have HI1 := Keep.mk (HI.out.alloc (.cells #[.string x] 9))
            go_wp2_with fail
            refine (sum_any (l := [x]) (Strs.made wr [x] 9 (show (1 : Nat) ≤ maxLen by decide)) (show (1 : Nat) ≤ 1000000 by decide) (by simp [cat]; omega)).mono ?_
            rintro e w6 ⟨rfl, hb6⟩
            have hcatx : mkS (B2.digest (cat [x])) = dig x := by simp [cat, dig]
            rw [hcatx]
            have HI6 := Keep.mk (HI1.out.below hb6)
            clear hcatx hb6 HI1 HI
            obtain ⟨d, hd⟩ : ∃ d, d = dig x := ⟨_, rfl⟩
            have HDG := Keep.mk hd
            rw [← hd]
            clear hd c0 c1 c2
            have hlk := HI6.out.map.lookup d
            have hFq := HFq.out
            cases hf : find d q.1 with
            | some y =>
              have hy1 := hFq.chunks _ (find_mem hf)
              obtain ⟨ys, yo, yn⟩ := y
              rw [hf] at hlk
              simp only [Option.map_some, Option.getD_some, Option.isSome_some, extA] at hlk
              have HPC : Keep (putC ses q x = (q.1, q.2.1, addE q.2.2 (ys, yo, yn))) := ⟨putC_some (by rw [← HDG.out]; exact hf)⟩
              rw [HPC.out] at hstep2 hfit3
              have HY1 := Keep.mk hy1
              clear hf hy1 hFq HPC
              go_upto_region 23 with (fail)
              have HI7 := Keep.mk (HI6.out.alloc (.cells #[.int .i64 ys, .int .i64 yo, .int .i64 yn] 42))
              have hO := HFq.out.outs
              have HC := collect_any HI7.out.col (x := (ys, yo, yn)) HFq.out.fine (by omega) HY1.out (by omega) (by have := HI7.out.hB; omega) HI7.out.bel.size
              simp only [extA] at HC
              have HC' := Keep.mk HC
              clear HC hlk HI6 hO
              go_wp2_with fail
              refine HC'.out.mono ?_
              rintro e w9 ⟨ev9, rfl, hcol, hb9, ho9⟩
              have HI9 := Keep.mk (HI7.out.collected hcol hb9 ho9)
              clear hcol hb9 ho9 HI7 HC'
              go_wp2_with fail
              go_roundw
              case rel => exact ⟨j + 1, _, _, _, by omega, by go_num, hstep2, hfit3, HI9⟩
              case measure => simp [intOf]; omega
            | none =>
              rw [hf] at hlk
              simp only [Option.map_none, Option.getD_none, Option.isSome_none, extA] at hlk
              have HPC : Keep (putC ses q x = (q.1 ++ [(d, (ses, (q.2.1.size : Int), (x.size : Int)))], q.2.1 ++ x, addE q.2.2 (ses, (q.2.1.size : Int), (x.size : Int)))) := ⟨by rw [HDG.out]; exact putC_none (by rw [← HDG.out]; exact hf)⟩
              rw [HPC.out] at hstep2 hfit3
              have HFN := Keep.mk hf
              have hfst := hFq.stream
              have hffew := hFq.few
              have hfout := hFq.outs
              have HP1 := HI6.out.par.cell 1
              have HG2 := HI6.out.out.cell 2
              have hPl := HI6.out.par.lt
              have hGl := HI6.out.out.lt
              simp only [storeCells, List.getElem?_cons_zero, List.getElem?_cons_succ] at HP1 HG2
              clear hf hFq HPC
              go_upto_region 20 with (fail)
              have HI7 := Keep.mk (HI6.out.alloc (.cells #[.int .i64 ses, .int .i64 (q.2.1.size : Int), .int .i64 (x.size : Int)] 42))
              have HE7 := Keep.mk (Arr.new w6 42 (extV (ses, (q.2.1.size : Int), (x.size : Int))))
              have hME := HI6.out.map.lt
              obtain ⟨m, hm, hmd⟩ := HI6.out.map
              have HM := Keep.mk (And.intro (hm.alloc (.cells #[.int .i64 ses, .int .i64 (q.2.1.size : Int), .int .i64 (x.size : Int)] 42)) hmd)
              clear hm hmd hlk HP1 HG2 HI6
              go_upto_region 21 with (at_mapUpdate; refine wpList_store (K := SK) rfl _ _ _ _ rfl Try.underlying59 rfl HM.out.1 d rfl ?_; intro w7 hM7 hg7; have H7 := Keep.mk (And.intro hM7 hg7); clear hM7 hg7)
              have HD8 : Keep (DigMap w7 M (q.1 ++ [(d, (ses, (q.2.1.size : Int), (x.size : Int)))])) := ⟨⟨_, H7.out.1, fun d' => by
                rw [find_new HFN.out, look_put, HM.out.2 d']
                split <;> rfl⟩⟩
              have HE8 : Keep (Arr w7 w6.heap.size 42 (extV (ses, (q.2.1.size : Int), (x.size : Int)))) := ⟨HE7.out.kept H7.out.2 (by intro e; cases e; exact absurd hME (Nat.lt_irrefl _))⟩
              have HI8 := Keep.mk (HI7.out.mapped HD8.out H7.out.2)
              clear HM H7 HD8 HI7 HE7
              have hE0 := HE8.out.cell 0
              have hE1 := HE8.out.cell 1
              have hE2 := HE8.out.cell 2
              have hG0 := HI8.out.out.cell 0
              have hGf := HI8.out.out.frozen 0
              have hEl := HE8.out.lt
              have hG7 := HI8.out.out.lt
              simp only [extV, storeCells, List.getElem?_cons_zero, List.getElem?_cons_succ] at hE0 hE1 hE2 hG0
              generalize w6.heap.size = E at *
              obtain ⟨i0, hi, hz0, hz1, hz2⟩ := info_parts Try.infoChk
              have hbw := HI8.out.bel.size
              go_upto_region 22 with (at_builtin; refine wpList_append_slc rfl _ _ 25 rfl w.heap.size 44 i0 (.agg #[.string ⟨#[]⟩, .int .i64 0, .int .i64 0, .int .i64 0]) 4 40 Try.underlying25 hi hz0 hz1 hz2 rfl (by decide) cv q.1.length (chkCells q.1) rfl (World.ownsRow.alloc HI8.out.row _) _ 1 (chkV (d, (ses, (q.2.1.size : Int), (x.size : Int)))) rfl (Slc.made (t := 44) (chkV (d, (ses, (q.2.1.size : Int), (x.size : Int)))) (by decide) rfl) (by simp [chkV, extV, Value.oneCell']) (by unfold maxLen; omega) (by omega) (by simp; omega) ?_; intro v8 w8 hown8 hg8 _; obtain ⟨g8, cap8, rfl⟩ := ownsRow_succ hown8; have HI9 := Keep.mk (HI8.out.alloc (.cells (chkV (d, (ses, (q.2.1.size : Int), (x.size : Int)))).toArray 44)); have H9 := Keep.mk (And.intro hown8 hg8); have ho9 := OnlyT.grown (OnlyT.refl [44] _) HI9.out.row hg8 (by simp); have hG9 := (ho9.arr HI9.out.out (by decide)).cell 0; have hGf9 := (ho9.arr HI9.out.out (by decide)).frozen 0; have hGl9 := (ho9.arr HI9.out.out (by decide)).lt; have HE9 := Keep.mk (ho9.arr (HE8.out.alloc (.cells (chkV (d, (ses, (q.2.1.size : Int), (x.size : Int)))).toArray 44)) (by decide)); simp only [storeCells, List.getElem?_cons_zero] at hG9; clear hown8 hg8 hi hz0 hz1 hz2 ho9)
              have hrow9 : OwnChks w.heap.size w8 (.slice (some ⟨g8, 0, none⟩) (q.1.length + 1) cap8) (q.1 ++ [(d, (ses, (q.2.1.size : Int), (x.size : Int)))]) := by
                unfold OwnChks
                rw [List.length_append, List.length_singleton, chkCells_append]
                have := H9.out.1
                simpa [chkCells] using this
              have HI10 := Keep.mk (HI9.out.rowed hrow9 H9.out.2)
              have HE10 := Keep.mk ((OnlyT.setCell (OnlyT.refl [27] w8) (a := ⟨G, 0, none⟩) (show w8.heap[G]? = _ from (OnlyT.grown (OnlyT.refl [44] _) HI9.out.row H9.out.2 (by simp)).arr HI9.out.out (by decide)) (by simp) (.slice (some ⟨g8, 0, none⟩) (q.1.length + 1) cap8)).arr HE9.out (by decide))
              clear hrow9 H9 HI9 HE9 hG9 hGf9 hGl9 hE0 hE1 hE2 hG0 hGf hEl hG7 HI8 HE8 hbw hME
              generalize w8.setCell ⟨G, 0, none⟩ (.slice (some ⟨g8, 0, none⟩) (q.1.length + 1) cap8) = wA at *
              have hG2 := HI10.out.out.cell 2
              have hGf2 := HI10.out.out.frozen 2
              simp only [storeCells, List.getElem?_cons_zero, List.getElem?_cons_succ] at hG2
              have hcat := fun (wx : World) => run_string_add_sum (P := Try.prog) wx q.2.1 x (by omega)
              go_upto_region 23 with (fail)
              have HI11 := Keep.mk (HI10.out.streamed (q.2.1 ++ x))
              have HE11 := Keep.mk ((OnlyT.setCell (OnlyT.refl [27] wA) (a := ⟨G, 2, none⟩) HI10.out.out (by simp) (.string (q.2.1 ++ x))).arr HE10.out (by decide))
              clear hG2 hGf2 hcat HI10 HE10
              generalize wA.setCell ⟨G, 2, none⟩ (.string (q.2.1 ++ x)) = wB at *
              have hE0 := HE11.out.cell 0
              have hE1 := HE11.out.cell 1
              have hE2 := HE11.out.cell 2
              simp only [extV, List.getElem?_cons_zero, List.getElem?_cons_succ] at hE0 hE1 hE2
              have HC := collect_any HI11.out.col (x := (ses, (q.2.1.size : Int), (x.size : Int))) HFq.out.fine (by omega) ⟨by simp, by simp; omega, by simp, by simp; omega⟩ (by omega) (by have := HI11.out.hB; omega) HI11.out.bel.size
              simp only [extA] at HC
              have HC' := Keep.mk HC
              clear HC
              go_wp2_with fail
              refine HC'.out.mono ?_
              rintro e w9 ⟨ev9, rfl, hcol, hb9, ho9⟩
              have HI12 := Keep.mk (HI11.out.collected hcol hb9 ho9)
              clear hcol hb9 ho9 HI11 HC' hE0 hE1 hE2
              go_wp2_with fail
              go_roundw
              case rel => exact ⟨j + 1, _, _, _, by omega, by go_num, hstep2, hfit3, HI12⟩
              case measure => simp [intOf]; omega
          · have hjc : j = ch.length := by omega
            subst hjc
            have HQ2 : Keep (q = (gs.take (k + 1)).foldl (putS ses) (cs, st, [])) := ⟨by rw [HQ.out, List.take_length]; exact hstep.out⟩
            have HF2 : Keep (Fit (expand (gs.drop (k + 1))).length q) := ⟨by have := HFq.out; rw [List.drop_length] at this; rw [HR.out]; exact this⟩
            have HI9 := Keep.mk (HI.out.back HI5.out.kt)
            clear HQ HFq HI HI5 hft5 hstep
            go_wp2_with fail
            go_roundw
            case rel => exact ⟨k + 1, _, _, _, by omega, by go_num, HQ2, HF2, HI9⟩
            case measure => simp [intOf]; omega
      · simp only at hd hn
        subst hd
        rw [show mkS [] = ⟨#[]⟩ from rfl] at c1
        obtain ⟨n, rfl⟩ := Int.eq_ofNat_of_zero_le (show 0 ≤ gn by omega)
        have hput : Keep (putS ses p ((n : Int), []) = (p.1, p.2.1, addE p.2.2 (0, 0, (n : Int)))) := ⟨if_pos rfl⟩
        rw [hput.out] at hstep
        have hfit2 : Keep (Fit rest (p.1, p.2.1, addE p.2.2 (0, 0, (n : Int)))) := ⟨Fit.hole (n := n) (by have := HFt.out; simp only [List.length_nil, Int.toNat_natCast] at this; rwa [Nat.zero_add, Nat.add_comm] at this) (by omega)⟩
        clear hput
        go_upto_region 12 with (fail)
        have HX := HFt.out
        have hO := HX.outs
        have hFine := HX.fine
        have hfit1 := HX.stream
        simp only [List.length_nil, Int.toNat_natCast, Nat.zero_add] at hO hfit1
        have HI2 := HI.out.alloc (.cells #[.int .i64 (n : Int), .string ⟨#[]⟩] 50)
        have HC := collect_any HI2.col (x := (0, 0, (n : Int))) (k := 1000000 - ([].length + (n : Int).toNat + rest)) hFine (by omega) ⟨by simp, by simp, by simp, by simp; omega⟩ (by omega) (by have := HI2.hB; omega) HI2.bel.size
        simp only [extA] at HC
        have HI3 := Keep.mk HI2
        clear HI2 HX hO hFine hfit1
        go_wp2_with fail
        refine HC.mono ?_
        rintro e w5 ⟨ev5, rfl, hcol, hb5, ho5⟩
        have HI5 := Keep.mk (HI3.out.collected hcol hb5 ho5)
        clear hcol hb5 ho5 HI3 HC
        go_wp2_with fail
        go_roundw
        case rel => exact ⟨k + 1, _, _, _, by omega, by go_num, hstep, ⟨by rw [HR.out]; exact hfit2.out⟩, HI5⟩
        case measure => simp [intOf]; omega
    · have hkg : k = gs.length := by omega
      subst hkg
      have HE : Keep (p = putAll ses cs st content) := ⟨by rw [HP.out, List.take_length, HPA.out]⟩
      have HBX := Keep.mk (Boxed.drew' HI.out.col.box)
      obtain ⟨ca, cc, rfl⟩ := ownsRow_slice HI.out.row
      have hq0 := (HI.out.drewN 1).out.cell 0
      have hq1 := (HI.out.drewN 1).out.cell 1
      have hq2 := (HI.out.drewN 1).out.cell 2
      simp only [storeCells, List.getElem?_cons_zero, List.getElem?_cons_succ] at hq0 hq1 hq2
      change wr.drew.cell? _ = _ at hq0
      change wr.drew.cell? _ = _ at hq1
      change wr.drew.cell? _ = _ at hq2
      go_wp2_with fail
      go_still_tail 3, (by kernel_rfl)
      still_call (result_still HBX.out _)
      repeat still_step
      try refine wpStill_nil ?_
      change wpList _ _ _ _ _ wr.drew
      have HID := Keep.mk (HI.out.drewN 1)
      have hp0 := HID.out.out.cell 0
      have hp1 := HID.out.out.cell 1
      have hp2 := HID.out.out.cell 2
      have hr0 := HID.out.res.cell 0
      have hr1 := HID.out.res.cell 1
      have hr2 := HID.out.res.cell 2
      have hf0 := HID.out.res.frozen 0
      have hf1 := HID.out.res.frozen 1
      have hf2 := HID.out.res.frozen 2
      have hrl := HID.out.res.lt
      have hol := HID.out.out.lt
      simp only [storeCells, List.getElem?_cons_zero, List.getElem?_cons_succ] at hp0 hp1 hp2 hr0 hr1 hr2
      have hwd : wr.drewN 1 = wr.drew := rfl
      rw [hwd] at hp0 hp1 hp2 hr0 hr1 hr2 hf0 hf1 hf2 hrl hol HID
      clear hwd HI HBX
      generalize wr.drew = wd at *
      go_wp2
      have HFIN := Keep.mk (store_filled (a := .slice ca p.1.length cc) (b := ses) (c := p.2.1) HID.out.res)
      have HRW := Keep.mk (HFIN.out.2.row HID.out.row (by decide))
      have HCW := Keep.mk (HFIN.out.2.row HID.out.col.row (by decide))
      have HBW := Keep.mk (((HID.out.bel.setCell (p := ⟨w.heap.size + 1, 0, none⟩) (by show w.heap.size ≤ w.heap.size + 1; omega) (.slice ca p.1.length cc)).setCell (p := ⟨w.heap.size + 1, 1, none⟩) (by show w.heap.size ≤ w.heap.size + 1; omega) (.int .i64 ses)).setCell (p := ⟨w.heap.size + 1, 2, none⟩) (by show w.heap.size ≤ w.heap.size + 1; omega) (.string p.2.1))
      have c0 := HFIN.out.1.cell 0
      have c1 := HFIN.out.1.cell 1
      have c2 := HFIN.out.1.cell 2
      simp only [storeCells, List.getElem?_cons_zero, List.getElem?_cons_succ] at c0 c1 c2
      clear hp0 hp1 hp2 hr0 hr1 hr2 hf0 hf1 hf2 hrl hol hq0 hq1 hq2 HID HFIN
      generalize (((wd.setCell ⟨w.heap.size + 1, 0, none⟩ (.slice ca p.1.length cc)).setCell ⟨w.heap.size + 1, 1, none⟩ (.int .i64 ses)).setCell ⟨w.heap.size + 1, 2, none⟩ (.string p.2.1)) = wf at *
      refine bodyPost_ret (v := .tuple #[.agg #[.slice ca p.1.length cc, .int .i64 ses, .string p.2.1], ev, .int .i64 0]) (by simp [results, Try.results13, go_sem, c0, c1, c2]) rfl ?_
      rw [← HE.out]
      exact ⟨_, _, rfl, HRW.out, HCW.out, HBW.out⟩
end Go.Proofs.Ytomlknjpaielgaa
