/- What the reference's Put holds between two of its steps. No condition. -/
import Derived.Test.YtomlknjpaielgaaRefBegin
namespace Go.Proofs.Ytomlknjpaielgaa
set_option maxRecDepth 100000
open Go.RowKit Go.Shelf Go.Proofs.Ytomlknjpaielgaa.Store

/-- w: where the call began; its parameter's block stands there, the result's behind it. -/
structure RefInv (w wz : World) (ses : Int) (p1 : List Chk) (p2 : ByteArray) (p3 : List Ext) (wr : World) (cv ov : Value) : Prop where
  box : Arr wr w.heap.size 27 (storeCells cv ses p2)
  res : Arr wr (w.heap.size + 1) 27 (storeCells (.slice none 0 0) 0 ⟨#[]⟩)
  own : Chks w cv p1 ∨ OwnChks w.heap.size wr cv p1
  out : OwnExts w.heap.size wr ov p3
  bel : Below w.heap.size w wr
  kt : KeepT wz wr
section
variable {w wz wr w' : World} {ses : Int} {p1 : List Chk} {p2 : ByteArray} {p3 : List Ext} {cv ov : Value}
theorem OwnExts.kept {base : Nat} {v : Value} {l : List Ext} (h : OwnExts base wr v l) (hb : Below wr.heap.size wr w') : OwnExts base w' v l := by
  obtain ⟨h1, h2⟩ := h
  refine ⟨h1, h2.imp id ?_⟩
  rintro ⟨g, cap, cur, rfl, hg, hh, r⟩
  exact ⟨g, cap, cur, rfl, hg, (hb.block g (Array.getElem?_eq_some_iff.1 hh).1).trans hh, r⟩
theorem RefInv.chk (h : RefInv w wz ses p1 p2 p3 wr cv ov) : Chks wr cv p1 := by
  rcases h.own with h1 | h1
  · exact h1.below h.bel (Nat.le_refl _)
  · exact h1.chks
theorem RefInv.below (h : RefInv w wz ses p1 p2 p3 wr cv ov) (hb : Below wr.heap.size wr w') : RefInv w wz ses p1 p2 p3 w' cv ov :=
  ⟨h.box.below hb h.box.lt, h.res.below hb h.res.lt, h.own.imp id (fun h1 => OwnChks.below h1 hb), h.out.kept hb, h.bel.trans (hb.mono h.bel.size), h.kt.trans (KeepT.of_below hb)⟩
theorem RefInv.alloc (h : RefInv w wz ses p1 p2 p3 wr cv ov) (o : Obj) : RefInv w wz ses p1 p2 p3 (wr.alloc o) cv ov := h.below ((Below.refl _ _).alloc (Nat.le_refl _) o)
theorem RefInv.drewN (h : RefInv w wz ses p1 p2 p3 wr cv ov) (n : Nat) : RefInv w wz ses p1 p2 p3 (wr.drewN n) cv ov := h.below (below_drewN (Below.refl _ _) n)
theorem RefInv.added (h : RefInv w wz ses p1 p2 p3 wr cv ov) {ov' : Value} {q : List Ext} (he : OwnExts w.heap.size w' ov' q) (hb : Below w.heap.size wr w') (ho : OnlyT [42] wr w') : RefInv w wz ses p1 p2 q w' cv ov' :=
  ⟨ho.arr h.box (by decide), ho.arr h.res (by decide), h.own.imp id (fun h1 => ho.row h1 (by decide)), he, h.bel.trans hb, h.kt.trans (KeepT.of_only ho (by decide))⟩
theorem RefInv.rowed (h : RefInv w wz ses p1 p2 p3 wr cv ov) {cv' : Value} {q : List Chk} (hr : OwnChks w.heap.size w' cv' q) (hb : Below w.heap.size wr w') (ho : OnlyT [44] wr w') :
    RefInv w wz ses q p2 p3 (w'.setCell ⟨w.heap.size, 0, none⟩ cv') cv' ov := by
  have hbox := ho.arr h.box (by decide)
  have ho2 := OnlyT.setCell (OnlyT.refl [27] w') (a := ⟨w.heap.size, 0, none⟩) hbox (by simp) cv'
  exact ⟨hbox.set 0 _, (ho.arr h.res (by decide)).other (by show w.heap.size + 1 ≠ w.heap.size; omega) _, .inr (ho2.row hr (by decide)), ho2.row (ho.row h.out (by decide)) (by decide),
    (h.bel.trans hb).setCell (p := ⟨w.heap.size, 0, none⟩) (Nat.le_refl _) _, (h.kt.trans (KeepT.of_only ho (by decide))).trans (KeepT.of_only ho2 (by decide))⟩
theorem RefInv.streamed (h : RefInv w wz ses p1 p2 p3 wr cv ov) (q : ByteArray) : RefInv w wz ses p1 q p3 (wr.setCell ⟨w.heap.size, 2, none⟩ (.string q)) cv ov := by
  have ho2 := OnlyT.setCell (OnlyT.refl [27] wr) (a := ⟨w.heap.size, 2, none⟩) h.box (by simp) (.string q)
  exact ⟨h.box.set 2 _, h.res.other (by show w.heap.size + 1 ≠ w.heap.size; omega) _, h.own.imp id (fun h1 => ho2.row h1 (by decide)), ho2.row h.out (by decide),
    h.bel.setCell (p := ⟨w.heap.size, 2, none⟩) (Nat.le_refl _) _, h.kt.trans (KeepT.of_only ho2 (by decide))⟩
theorem RefInv.rebase (h : RefInv w wz ses p1 p2 p3 wr cv ov) : RefInv w wr ses p1 p2 p3 wr cv ov := ⟨h.box, h.res, h.own, h.out, h.bel, KeepT.refl _⟩
theorem RefInv.back {wy : World} (h : RefInv w wz ses p1 p2 p3 wr cv ov) (hk : KeepT wy wz) : RefInv w wy ses p1 p2 p3 wr cv ov := ⟨h.box, h.res, h.own, h.out, h.bel, hk.trans h.kt⟩
end
end Go.Proofs.Ytomlknjpaielgaa
