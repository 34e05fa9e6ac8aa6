/- What the statements' own helper stored holds between two of its steps. No condition. -/
import Derived.Test.YtomlknjpaielgaaStoredMath
import Derived.Test.YtomlknjpaielgaaStoreBegin
namespace Go.Proofs.Ytomlknjpaielgaa
set_option maxRecDepth 100000
open Go.RowKit Go.Shelf Go.Proofs.Ytomlknjpaielgaa.Store

/-- us are slices of extents in blocks from base on. -/
def ExtRows (base : Nat) (w : World) (us : List Value) (es : List (List Ext)) : Prop :=
  us.length = es.length ∧ ∀ (i : Nat) (e : List Ext), es[i]? = some e → ∃ u, us[i]? = some u ∧ OwnExts base w u e
theorem ExtRows.only {base : Nat} {ts : List TypeId} {w w' : World} {us : List Value} {es : List (List Ext)} (h : ExtRows base w us es) (ho : OnlyT ts w w') (ht : 42 ∉ ts) : ExtRows base w' us es :=
  ⟨h.1, fun i e he => let ⟨u, h1, h2⟩ := h.2 i e he; ⟨u, h1, ho.row h2 ht⟩⟩
theorem row_below {base size n : Nat} {e : TypeId} {w w' : World} {v : Value} {xs : List Value} (h : w.ownsRow base e size v n xs) (hb : Below w.heap.size w w') : w'.ownsRow base e size v n xs := by
  obtain ⟨h1, h2⟩ := h
  refine ⟨h1, h2.imp id ?_⟩
  rintro ⟨g, cap, cur, rfl, hg, hh, r⟩
  exact ⟨g, cap, cur, rfl, hg, (hb.block g (Array.getElem?_eq_some_iff.1 hh).1).trans hh, r⟩
theorem ExtRows.below {base : Nat} {w w' : World} {us : List Value} {es : List (List Ext)} (h : ExtRows base w us es) (hb : Below w.heap.size w w') : ExtRows base w' us es :=
  ⟨h.1, fun i e he => let ⟨u, h1, h2⟩ := h.2 i e he; ⟨u, h1, row_below h2 hb⟩⟩
theorem ExtRows.snoc {base : Nat} {w : World} {us : List Value} {es : List (List Ext)} {u : Value} {e : List Ext} (h : ExtRows base w us es) (hu : OwnExts base w u e) : ExtRows base w (us ++ [u]) (es ++ [e]) := by
  refine ⟨by simp [h.1], fun i x hx => ?_⟩
  by_cases hi : i < es.length
  · rw [List.getElem?_append_left hi] at hx
    obtain ⟨u', h1, h2⟩ := h.2 i x hx
    exact ⟨u', by rw [List.getElem?_append_left (by rw [h.1]; exact hi)]; exact h1, h2⟩
  · have hl := (List.getElem?_eq_some_iff.1 hx).1
    simp at hl
    have : i = es.length := by omega
    subst this
    simp at hx
    subst hx
    exact ⟨u, by rw [← h.1]; simp, hu⟩
theorem OwnExts.lower {base base' : Nat} {w : World} {v : Value} {l : List Ext} (h : OwnExts base w v l) (hb : base' ≤ base) : OwnExts base' w v l := ownsRow_base h hb
theorem OwnChks.lower {base base' : Nat} {w : World} {v : Value} {l : List Chk} (h : OwnChks base w v l) (hb : base' ≤ base) : OwnChks base' w v l := ownsRow_base h hb

/-- w: where the call began; the result's block stands there, the store's behind it. -/
structure StInv (w : World) (cs : List Chk) (ses : Int) (st : ByteArray) (streams : List ByteArray) (exts : List (List Ext)) (wr : World) (cv sv xv : Value) (us : List Value) : Prop where
  res : Arr wr w.heap.size 27 (storeCells (.slice none 0 0) 0 ⟨#[]⟩)
  box : Arr wr (w.heap.size + 1) 27 (storeCells cv ses st)
  chk : OwnChks w.heap.size wr cv cs
  str : OwnStrs w.heap.size wr sv streams
  row : wr.ownsRow w.heap.size 31 1 xv us.length us
  ext : ExtRows w.heap.size wr us exts
  bel : Below w.heap.size w wr
section
variable {w wr w' : World} {cs : List Chk} {ses : Int} {st : ByteArray} {streams : List ByteArray} {exts : List (List Ext)} {cv sv xv : Value} {us : List Value}
theorem StInv.below (h : StInv w cs ses st streams exts wr cv sv xv us) (hb : Below wr.heap.size wr w') : StInv w cs ses st streams exts w' cv sv xv us :=
  ⟨h.res.below hb h.res.lt, h.box.below hb h.box.lt, row_below h.chk hb, row_below h.str hb, row_below h.row hb, h.ext.below hb, h.bel.trans (hb.mono h.bel.size)⟩
theorem StInv.alloc (h : StInv w cs ses st streams exts wr cv sv xv us) (o : Obj) : StInv w cs ses st streams exts (wr.alloc o) cv sv xv us := h.below ((Below.refl _ _).alloc (Nat.le_refl _) o)
theorem StInv.drew (h : StInv w cs ses st streams exts wr cv sv xv us) : StInv w cs ses st streams exts wr.drew cv sv xv us := h.below (Below.refl _ _).drew
/-- The store has been replaced. -/
theorem StInv.boxed (h : StInv w cs ses st streams exts wr cv sv xv us) {cv' : Value} {cs' : List Chk} (ses' : Int) (st' : ByteArray) (hc : OwnChks w.heap.size wr cv' cs') :
    StInv w cs' ses' st' streams exts (((wr.setCell ⟨w.heap.size + 1, 0, none⟩ cv').setCell ⟨w.heap.size + 1, 1, none⟩ (.int .i64 ses')).setCell ⟨w.heap.size + 1, 2, none⟩ (.string st')) cv' sv xv us := by
  obtain ⟨h1, h2⟩ := store_filled (a := cv') (b := ses') (c := st') h.box
  have hr : ∀ (j : Nat), w.heap.size ≠ (⟨w.heap.size + 1, j, none⟩ : Addr).block := fun j => by show w.heap.size ≠ w.heap.size + 1; omega
  exact ⟨((h.res.other (hr 0) _).other (hr 1) _).other (hr 2) _, h1, h2.row hc (by decide), h2.row h.str (by decide), h2.row h.row (by decide), h.ext.only h2 (by decide),
    ((h.bel.setCell (p := ⟨w.heap.size + 1, 0, none⟩) (by show w.heap.size ≤ w.heap.size + 1; omega) _).setCell (p := ⟨w.heap.size + 1, 1, none⟩) (by show w.heap.size ≤ w.heap.size + 1; omega) _).setCell (p := ⟨w.heap.size + 1, 2, none⟩) (by show w.heap.size ≤ w.heap.size + 1; omega) _⟩
theorem StInv.streamed (h : StInv w cs ses st streams exts wr cv sv xv us) {sv' : Value} {streams' : List ByteArray} (hs : OwnStrs w.heap.size w' sv' streams') (hg : wr.grownBy w' sv.ownBlock) : StInv w cs ses st streams' exts w' cv sv' xv us := by
  have ho := OnlyT.grown (OnlyT.refl [9] wr) h.str hg (by simp)
  exact ⟨ho.arr h.res (by decide), ho.arr h.box (by decide), ho.row h.chk (by decide), hs, ho.row h.row (by decide), h.ext.only ho (by decide), h.bel.grown hg h.bel.size (fun k hk => (World.ownsRow.lt h.str k hk).1)⟩
theorem StInv.extended (h : StInv w cs ses st streams exts wr cv sv xv us) {xv' u : Value} {e : List Ext} (hs : w'.ownsRow w.heap.size 31 1 xv' (us ++ [u]).length (us ++ [u])) (hg : wr.grownBy w' xv.ownBlock) (hu : OwnExts w.heap.size wr u e) :
    StInv w cs ses st streams (exts ++ [e]) w' cv sv xv' (us ++ [u]) := by
  have ho := OnlyT.grown (OnlyT.refl [31] wr) h.row hg (by simp)
  exact ⟨ho.arr h.res (by decide), ho.arr h.box (by decide), ho.row h.chk (by decide), ho.row h.str (by decide), hs, (h.ext.snoc hu).only ho (by decide), h.bel.grown hg h.bel.size (fun k hk => (World.ownsRow.lt h.row k hk).1)⟩
end
/-- An append of strings, told with what it leaves. -/
theorem wpList_append_strs2 {ops : Array Oper} {rest : List Oper} {o : Oper} {a : Act} {w : World} {Q : Exit → Act → World → Prop} (hgd : o.guard = none) (s x : Operand)
    (ho : o.op = .call { callee := .builtin .append, args := #[s, x], argTypes := #[22, 22] })
    {base : Nat} {v : Value} {l : List ByteArray} (hs : a.eval s = v) (hown : OwnStrs base w v l) {u : Value} {m : List ByteArray} (hx : a.eval x = u) (hu : Strs w u m)
    (hn : l.length + m.length ≤ 1000000) (hbase : base ≤ w.heap.size)
    (h : ∀ v' w', OwnStrs base w' v' (l ++ m) → w.grownBy w' v.ownBlock → wpList Try.prog ops Q rest (a.put o.dst v') w') : wpList Try.prog ops Q (o :: rest) a w := by
  obtain ⟨i0, hi, hz0, hz1, hz2⟩ := info_parts Try.infoStrS
  refine wpList_append_slc hgd s x 22 ho base 9 i0 (.string ⟨#[]⟩) 1 16 Try.underlying22 hi hz0 hz1 hz2 rfl (by decide) v l.length (strCells l) hs hown u m.length (strCells m) hx hu.slc (by simp [strCells, Value.oneCell']) (by unfold maxLen; omega) (by omega) hbase ?_
  intro v' w' hown' hg _
  refine h v' w' ?_ hg
  unfold OwnStrs
  rw [List.length_append]
  simpa [strCells] using hown'
end Go.Proofs.Ytomlknjpaielgaa
