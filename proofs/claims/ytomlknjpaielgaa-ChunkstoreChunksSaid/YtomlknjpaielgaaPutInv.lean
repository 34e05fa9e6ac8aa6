/- What Put holds between two of its steps, and what each step leaves of it. No condition. -/
import Derived.Test.YtomlknjpaielgaaStoreIdx
namespace Go.Proofs.Ytomlknjpaielgaa
set_option maxRecDepth 100000
open Go.RowKit Go.Shelf Go.Proofs.Ytomlknjpaielgaa.Store

def storeCells (cv : Value) (ses : Int) (st : ByteArray) : List Value := [cv, .int .i64 ses, .string st]
/-- Blocks of segments and of strings lie as they lay. -/
def KeepT (w w' : World) : Prop := ∀ (k : Nat) (cs : Array Value) (t : TypeId) (m : Nat × Nat), w.heap[k]? = some (.cells cs t m) → t ∈ [50, 9] → w'.heap[k]? = some (.cells cs t m)
theorem KeepT.refl (w : World) : KeepT w w := fun _ _ _ _ h _ => h
theorem KeepT.trans {a b c : World} (h : KeepT a b) (h' : KeepT b c) : KeepT a c := fun k cs t m hk ht => h' k cs t m (h k cs t m hk ht) ht
theorem KeepT.of_below {w w' : World} (h : Below w.heap.size w w') : KeepT w w' := fun k _ _ _ hk _ => (h.block k (Array.getElem?_eq_some_iff.1 hk).1).trans hk
theorem KeepT.of_only {ts : List TypeId} {w w' : World} (h : OnlyT ts w w') (hts : ∀ t ∈ [50, 9], t ∉ ts) : KeepT w w' := fun k _ t _ hk ht => h k _ hk (fun _ t' _ e' ht' => by cases e'; exact hts t ht ht')
theorem KeepT.row {w w' : World} (h : KeepT w w') {base size n : Nat} {e : TypeId} {v : Value} {xs : List Value} (hr : w.ownsRow base e size v n xs) (he : e ∈ [50, 9]) : w'.ownsRow base e size v n xs := by
  obtain ⟨h1, h2⟩ := hr
  refine ⟨h1, h2.imp id ?_⟩
  rintro ⟨g, cap, cur, rfl, hg, hh, r⟩
  exact ⟨g, cap, cur, rfl, hg, h g _ _ _ hh he, r⟩
/-- w: where the call began; G: the store that it builds; M: the map; B: the collector's box. -/
structure PutInv (w wz : World) (G M B : Nat) (v : Value) (ses : Int) (st : ByteArray) (p1 pm : List Chk) (p2 : ByteArray) (p3 : List Ext) (wr : World) (cv ev : Value) : Prop where
  par : Arr wr w.heap.size 27 (storeCells v ses st)
  res : Arr wr (w.heap.size + 1) 27 (storeCells (.slice none 0 0) 0 ⟨#[]⟩)
  out : Arr wr G 27 (storeCells cv ses p2)
  row : OwnChks w.heap.size wr cv p1
  map : DigMap wr M pm
  col : Coll w.heap.size B wr ev p3
  bel : Below w.heap.size w wr
  hG : w.heap.size + 2 ≤ G
  hM : w.heap.size + 2 ≤ M
  hB : w.heap.size + 2 ≤ B
  kt : KeepT wz wr

section
variable {w wz wr w' : World} {G M B : Nat} {v cv ev : Value} {ses : Int} {st : ByteArray} {p1 pm : List Chk} {p2 : ByteArray} {p3 : List Ext}
theorem DigMap.lt {l : List Chk} (h : DigMap w M l) : M < w.heap.size := by
  obtain ⟨m, h1, _⟩ := h
  exact h1.lt
theorem Coll.below {base : Nat} {l : List Ext} (h : Coll base B wr ev l) (hb : Below wr.heap.size wr w') : Coll base B w' ev l :=
  ⟨(hb.block B h.box.lt).trans h.box, by
    obtain ⟨h1, h2⟩ := h.row
    refine ⟨h1, h2.imp id ?_⟩
    rintro ⟨g, cap, cur, rfl, hg, hh, r⟩
    exact ⟨g, cap, cur, rfl, hg, (hb.block g (Array.getElem?_eq_some_iff.1 hh).1).trans hh, r⟩⟩
theorem OwnChks.below {base : Nat} {l : List Chk} (h : OwnChks base wr cv l) (hb : Below wr.heap.size wr w') : OwnChks base w' cv l := by
  obtain ⟨h1, h2⟩ := h
  refine ⟨h1, h2.imp id ?_⟩
  rintro ⟨g, cap, cur, rfl, hg, hh, r⟩
  exact ⟨g, cap, cur, rfl, hg, (hb.block g (Array.getElem?_eq_some_iff.1 hh).1).trans hh, r⟩
theorem PutInv.below (h : PutInv w wz G M B v ses st p1 pm p2 p3 wr cv ev) (hb : Below wr.heap.size wr w') : PutInv w wz G M B v ses st p1 pm p2 p3 w' cv ev :=
  ⟨h.par.below hb h.par.lt, h.res.below hb h.res.lt, h.out.below hb h.out.lt, h.row.below hb, h.map.below hb h.map.lt, h.col.below hb, h.bel.trans (hb.mono h.bel.size), h.hG, h.hM, h.hB, h.kt.trans (KeepT.of_below hb)⟩
theorem PutInv.alloc (h : PutInv w wz G M B v ses st p1 pm p2 p3 wr cv ev) (o : Obj) : PutInv w wz G M B v ses st p1 pm p2 p3 (wr.alloc o) cv ev := h.below ((Below.refl _ _).alloc (Nat.le_refl _) o)
theorem PutInv.drewN (h : PutInv w wz G M B v ses st p1 pm p2 p3 wr cv ev) (n : Nat) : PutInv w wz G M B v ses st p1 pm p2 p3 (wr.drewN n) cv ev := h.below (below_drewN (Below.refl _ _) n)
/-- The collector has been called. -/
theorem PutInv.collected (h : PutInv w wz G M B v ses st p1 pm p2 p3 wr cv ev) {ev' : Value} {q : List Ext} (hc : Coll w.heap.size B w' ev' q) (hb : Below w.heap.size wr w') (ho : OnlyT [42, 31] wr w') :
    PutInv w wz G M B v ses st p1 pm p2 q w' cv ev' :=
  ⟨ho.arr h.par (by decide), ho.arr h.res (by decide), ho.arr h.out (by decide), ho.row h.row (by decide), h.map.only ho, hc, h.bel.trans hb, h.hG, h.hM, h.hB, h.kt.trans (KeepT.of_only ho (by decide))⟩
/-- Nothing but the map has turned. -/
theorem PutInv.mapped (h : PutInv w wz G M B v ses st p1 pm p2 p3 wr cv ev) {qm : List Chk} (hm : DigMap w' M qm) (hg : wr.grownBy w' (some M)) : PutInv w wz G M B v ses st p1 qm p2 p3 w' cv ev := by
  obtain ⟨m, hmap, _⟩ := h.map
  obtain ⟨es, clock, hm1, _⟩ := hmap
  have hne : ∀ {k : Nat} {cs : Array Value} {t : TypeId} {f : Nat × Nat}, wr.heap[k]? = some (.cells cs t f) → w'.heap[k]? = some (.cells cs t f) := fun {k cs t f} hk => by
    refine (hg.block k (Array.getElem?_eq_some_iff.1 hk).1 (fun e => ?_)).trans hk
    simp only [Option.some.injEq] at e
    subst e
    rw [hm1] at hk
    cases hk
  have hrow : ∀ {e : TypeId} {size n : Nat} {u : Value} {xs : List Value}, wr.ownsRow w.heap.size e size u n xs → w'.ownsRow w.heap.size e size u n xs := fun {e size n u xs} hr => by
    obtain ⟨h1, h2⟩ := hr
    refine ⟨h1, h2.imp id ?_⟩
    rintro ⟨g, cap, cur, rfl, hg', hh, r⟩
    exact ⟨g, cap, cur, rfl, hg', hne hh, r⟩
  exact ⟨hne h.par, hne h.res, hne h.out, hrow h.row, hm, ⟨hne h.col.box, hrow h.col.row⟩, h.bel.grown hg h.bel.size (fun k e => by cases e; have := h.hM; omega), h.hG, h.hM, h.hB, h.kt.trans (fun k cs t m hk _ => hne hk)⟩
/-- The chunks' row has grown, and its new value stands in the store. -/
theorem PutInv.rowed (h : PutInv w wz G M B v ses st p1 pm p2 p3 wr cv ev) {cv' : Value} {q : List Chk} (hr : OwnChks w.heap.size w' cv' q) (hg : wr.grownBy w' cv.ownBlock) :
    PutInv w wz G M B v ses st q pm p2 p3 (w'.setCell ⟨G, 0, none⟩ cv') cv' ev := by
  have ho := OnlyT.grown (OnlyT.refl [44] wr) h.row hg (by simp)
  have hout := ho.arr h.out (by decide)
  have ho2 := OnlyT.setCell (OnlyT.refl [27] w') (a := ⟨G, 0, none⟩) hout (by simp) cv'
  have hb : Below w.heap.size w w' := h.bel.grown hg h.bel.size (fun k hk => (World.ownsRow.lt h.row k hk).1)
  have hc : Coll w.heap.size B w' ev p3 := ⟨ho.boxed h.col.box (by decide), ho.row h.col.row (by decide)⟩
  exact ⟨(ho.arr h.par (by decide)).other (by have := h.hG; show w.heap.size ≠ G; omega) _, (ho.arr h.res (by decide)).other (by have := h.hG; show w.heap.size + 1 ≠ G; omega) _, hout.set 0 _, ho2.row hr (by decide),
    (h.map.only ho).only ho2, ⟨ho2.boxed hc.box (by decide), ho2.row hc.row (by decide)⟩, hb.setCell (p := ⟨G, 0, none⟩) (by have := h.hG; show w.heap.size ≤ G; omega) _, h.hG, h.hM, h.hB, (h.kt.trans (KeepT.of_only ho (by decide))).trans (KeepT.of_only ho2 (by decide))⟩
/-- The stream has grown. -/
theorem PutInv.streamed (h : PutInv w wz G M B v ses st p1 pm p2 p3 wr cv ev) (q : ByteArray) : PutInv w wz G M B v ses st p1 pm q p3 (wr.setCell ⟨G, 2, none⟩ (.string q)) cv ev := by
  have ho2 := OnlyT.setCell (OnlyT.refl [27] wr) (a := ⟨G, 2, none⟩) h.out (by simp) (.string q)
  exact ⟨h.par.other (by have := h.hG; show w.heap.size ≠ G; omega) _, h.res.other (by have := h.hG; show w.heap.size + 1 ≠ G; omega) _, h.out.set 2 _, ho2.row h.row (by decide),
    h.map.only ho2, ⟨ho2.boxed h.col.box (by decide), ho2.row h.col.row (by decide)⟩, h.bel.setCell (p := ⟨G, 2, none⟩) (by have := h.hG; show w.heap.size ≤ G; omega) _, h.hG, h.hM, h.hB, h.kt.trans (KeepT.of_only ho2 (by decide))⟩
theorem PutInv.rebase (h : PutInv w wz G M B v ses st p1 pm p2 p3 wr cv ev) : PutInv w wr G M B v ses st p1 pm p2 p3 wr cv ev :=
  ⟨h.par, h.res, h.out, h.row, h.map, h.col, h.bel, h.hG, h.hM, h.hB, KeepT.refl _⟩
theorem PutInv.back {wy : World} (h : PutInv w wz G M B v ses st p1 pm p2 p3 wr cv ev) (hk : KeepT wy wz) : PutInv w wy G M B v ses st p1 pm p2 p3 wr cv ev :=
  ⟨h.par, h.res, h.out, h.row, h.map, h.col, h.bel, h.hG, h.hM, h.hB, hk.trans h.kt⟩
end
end Go.Proofs.Ytomlknjpaielgaa
