/- Extents and chunks in memory: slices of them read as lists; what a step leaves as it lay, told by the blocks' types. No condition. -/
import Derived.Test.YtomlknjpaielgaaStoreMath
import Derived.Test.YtomlknjpaielgaaSlc
import Derived.Test.YtomlknjpaielgaaMaps
import Derived.Test.YtomlknjpaielgaaB2Arr
import Derived.RangeFuncBox
namespace Go.Proofs.Ytomlknjpaielgaa
set_option maxRecDepth 100000
open Go.RowKit Go.Shelf Go.Proofs.Ytomlknjpaielgaa.Store

def extV (x : Ext) : List Value := [.int .i64 x.1, .int .i64 x.2.1, .int .i64 x.2.2]
def extCells (l : List Ext) : List Value := l.flatMap extV
theorem extCells_append (l m : List Ext) : extCells (l ++ m) = extCells l ++ extCells m := by simp [extCells]
theorem extCells_length (l : List Ext) : (extCells l).length = l.length * 3 := by
  induction l with
  | nil => rfl
  | cons x l ih => rw [extCells, List.flatMap_cons, List.length_append]; simp only [extCells] at ih; rw [ih]; simp [extV]; omega
theorem extCells_get : ∀ (l : List Ext) (i : Nat) (x : Ext), l[i]? = some x → (extCells l)[i * 3]? = some (.int .i64 x.1) ∧ (extCells l)[i * 3 + 1]? = some (.int .i64 x.2.1) ∧ (extCells l)[i * 3 + 2]? = some (.int .i64 x.2.2)
  | [], i, s, h => by simp at h
  | a :: l, 0, s, h => by
    simp only [List.getElem?_cons_zero, Option.some.injEq] at h
    subst h
    exact ⟨rfl, rfl, rfl⟩
  | a :: l, i + 1, s, h => by
    rw [List.getElem?_cons_succ] at h
    obtain ⟨h1, h2, h3⟩ := extCells_get l i s h
    have e : extCells (a :: l) = .int .i64 a.1 :: .int .i64 a.2.1 :: .int .i64 a.2.2 :: extCells l := rfl
    rw [e, show (i + 1) * 3 = i * 3 + 1 + 1 + 1 by omega]
    exact ⟨h1, h2, h3⟩
def chkV (c : Chk) : List Value := .string c.1 :: extV c.2
def chkCells (l : List Chk) : List Value := l.flatMap chkV
theorem chkCells_append (l m : List Chk) : chkCells (l ++ m) = chkCells l ++ chkCells m := by simp [chkCells]
theorem chkCells_length (l : List Chk) : (chkCells l).length = l.length * 4 := by
  induction l with
  | nil => rfl
  | cons x l ih => rw [chkCells, List.flatMap_cons, List.length_append]; simp only [chkCells] at ih; rw [ih]; simp [chkV, extV]; omega
theorem chkCells_get : ∀ (l : List Chk) (i : Nat) (x : Chk), l[i]? = some x → (chkCells l)[i * 4]? = some (.string x.1) ∧ (chkCells l)[i * 4 + 1]? = some (.int .i64 x.2.1) ∧ (chkCells l)[i * 4 + 2]? = some (.int .i64 x.2.2.1) ∧ (chkCells l)[i * 4 + 3]? = some (.int .i64 x.2.2.2)
  | [], i, s, h => by simp at h
  | a :: l, 0, s, h => by
    simp only [List.getElem?_cons_zero, Option.some.injEq] at h
    subst h
    exact ⟨rfl, rfl, rfl, rfl⟩
  | a :: l, i + 1, s, h => by
    rw [List.getElem?_cons_succ] at h
    obtain ⟨h1, h2, h3, h4⟩ := chkCells_get l i s h
    have e : chkCells (a :: l) = .string a.1 :: .int .i64 a.2.1 :: .int .i64 a.2.2.1 :: .int .i64 a.2.2.2 :: chkCells l := rfl
    rw [e, show (i + 1) * 4 = i * 4 + 1 + 1 + 1 + 1 by omega]
    exact ⟨h1, h2, h3, h4⟩
theorem extCells_one (l : List Ext) : ∀ v ∈ extCells l, v.oneCell' = true := by
  intro v hv
  obtain ⟨x, _, hv⟩ := List.mem_flatMap.1 hv
  simp only [extV, List.mem_cons, List.not_mem_nil, or_false] at hv
  rcases hv with rfl | rfl | rfl <;> rfl
theorem chkCells_one (l : List Chk) : ∀ v ∈ chkCells l, v.oneCell' = true := by
  intro v hv
  obtain ⟨x, _, hv⟩ := List.mem_flatMap.1 hv
  simp only [chkV, extV, List.mem_cons, List.not_mem_nil, or_false] at hv
  rcases hv with rfl | rfl | rfl | rfl <;> rfl

/-- v is a slice of the extents l. -/
def Exts (w : World) (v : Value) (l : List Ext) : Prop := Slc w 3 v l.length (extCells l)
/-- v is a slice of the chunks l. -/
def Chks (w : World) (v : Value) (l : List Chk) : Prop := Slc w 4 v l.length (chkCells l)
theorem Exts.below {B : Nat} {w w' : World} {v : Value} {l : List Ext} (h : Exts w v l) (hb : Below B w w') (hB : w.heap.size ≤ B) : Exts w' v l := Slc.below h hb hB
theorem Chks.below {B : Nat} {w w' : World} {v : Value} {l : List Chk} (h : Chks w v l) (hb : Below B w w') (hB : w.heap.size ≤ B) : Chks w' v l := Slc.below h hb hB
theorem Exts.parts {w : World} {v : Value} {l : List Ext} (h : Exts w v l) : ∃ a cap, v = .slice a l.length cap ∧ l.length ≤ cap ∧ cap ≤ maxLen ∧ ∀ i x, l[i]? = some x → ∃ b o, a = some ⟨b, o, none⟩ ∧ b < w.heap.size ∧
    w.cell? ⟨b, o + i * 3, none⟩ = some (.int .i64 x.1) ∧ w.cell? ⟨b, o + i * 3 + 1, none⟩ = some (.int .i64 x.2.1) ∧ w.cell? ⟨b, o + i * 3 + 2, none⟩ = some (.int .i64 x.2.2) := by
  obtain ⟨a, cap, rfl, h1, h2, h3, h4⟩ := h
  refine ⟨a, cap, rfl, h1, h2, fun i x hx => ?_⟩
  rcases h4 with h0 | ⟨b, o, rfl, hb, hc⟩
  · have := (List.getElem?_eq_some_iff.1 hx).1; omega
  · obtain ⟨c1, c2, c3⟩ := extCells_get l i x hx
    exact ⟨b, o, rfl, hb, hc _ _ c1, hc _ _ c2, hc _ _ c3⟩
theorem Chks.parts {w : World} {v : Value} {l : List Chk} (h : Chks w v l) : ∃ a cap, v = .slice a l.length cap ∧ l.length ≤ cap ∧ cap ≤ maxLen ∧ ∀ i x, l[i]? = some x → ∃ b o, a = some ⟨b, o, none⟩ ∧ b < w.heap.size ∧
    w.cell? ⟨b, o + i * 4, none⟩ = some (.string x.1) ∧ w.cell? ⟨b, o + i * 4 + 1, none⟩ = some (.int .i64 x.2.1) ∧ w.cell? ⟨b, o + i * 4 + 2, none⟩ = some (.int .i64 x.2.2.1) ∧ w.cell? ⟨b, o + i * 4 + 3, none⟩ = some (.int .i64 x.2.2.2) := by
  obtain ⟨a, cap, rfl, h1, h2, h3, h4⟩ := h
  refine ⟨a, cap, rfl, h1, h2, fun i x hx => ?_⟩
  rcases h4 with h0 | ⟨b, o, rfl, hb, hc⟩
  · have := (List.getElem?_eq_some_iff.1 hx).1; omega
  · obtain ⟨c1, c2, c3, c4⟩ := chkCells_get l i x hx
    exact ⟨b, o, rfl, hb, hc _ _ c1, hc _ _ c2, hc _ _ c3, hc _ _ c4⟩
theorem Try.infoExt : (Try.prog.info? 42).map (fun i => (i.zero, i.size, i.bytes)) = some (some (.agg #[.int .i64 0, .int .i64 0, .int .i64 0]), 3, 24) := by kernel_rfl
theorem Try.infoChk : (Try.prog.info? 44).map (fun i => (i.zero, i.size, i.bytes)) = some (some (.agg #[.string ⟨#[]⟩, .int .i64 0, .int .i64 0, .int .i64 0]), 4, 40) := by kernel_rfl

/-- An object that is no block of cells of these types. -/
def NotOf (ts : List TypeId) (o : Obj) : Prop := ∀ cs t m, o = .cells cs t m → t ∉ ts
/-- Whatever is no block of these types lies as it lay. -/
def OnlyT (ts : List TypeId) (w w' : World) : Prop := ∀ (k : Nat) (o : Obj), w.heap[k]? = some o → NotOf ts o → w'.heap[k]? = some o
theorem OnlyT.refl (ts : List TypeId) (w : World) : OnlyT ts w w := fun _ _ h _ => h
theorem OnlyT.trans {ts : List TypeId} {a b c : World} (h : OnlyT ts a b) (h' : OnlyT ts b c) : OnlyT ts a c := fun k o ho hn => h' k o (h k o ho hn) hn
theorem NotOf.mono {ts us : List TypeId} {o : Obj} (h : NotOf us o) (hs : ∀ t ∈ ts, t ∈ us) : NotOf ts o := fun cs t m e ht => h cs t m e (hs t ht)
theorem OnlyT.mono {ts us : List TypeId} {w w' : World} (h : OnlyT ts w w') (hs : ∀ t ∈ ts, t ∈ us) : OnlyT us w w' := fun k o ho hn => h k o ho (hn.mono hs)
theorem OnlyT.alloc {ts : List TypeId} {w w' : World} (h : OnlyT ts w w') (o : Obj) : OnlyT ts w (w'.alloc o) := fun k p hp hn => by
  have := h k p hp hn
  exact (Below.heap_alloc w' o k (Array.getElem?_eq_some_iff.1 this).1).trans this
theorem OnlyT.drewN {ts : List TypeId} {w w' : World} (h : OnlyT ts w w') (n : Nat) : OnlyT ts w (w'.drewN n) := h
theorem OnlyT.drew {ts : List TypeId} {w w' : World} (h : OnlyT ts w w') : OnlyT ts w w'.drew := h
theorem OnlyT.setCell {ts : List TypeId} {w w' : World} (h : OnlyT ts w w') {a : Addr} {cs : Array Value} {t : TypeId} {m : Nat × Nat} (ha : w'.heap[a.block]? = some (.cells cs t m)) (ht : t ∈ ts) (u : Value) : OnlyT ts w (w'.setCell a u) := fun k o ho hn => by
  have hk := h k o ho hn
  have hne : k ≠ a.block := fun e => by
    rw [e, ha] at hk
    simp only [Option.some.injEq] at hk
    exact hn cs t m hk.symm ht
  exact (Below.heap_setCell w' a u k hne).trans hk
theorem OnlyT.grown {ts : List TypeId} {w w' w'' : World} (h : OnlyT ts w w') {base size n : Nat} {e : TypeId} {v : Value} {xs : List Value} (hr : w'.ownsRow base e size v n xs) (hg : w'.grownBy w'' v.ownBlock) (ht : e ∈ ts) : OnlyT ts w w'' := fun k o ho hn => by
  have hk := h k o ho hn
  refine (hg.block k (Array.getElem?_eq_some_iff.1 hk).1 (fun e' => ?_)).trans hk
  rcases hr.2 with ⟨rfl, _⟩ | ⟨g, cap, cur, rfl, _, hh, _⟩
  · cases e'
  · simp only [Value.ownBlock, Option.some.injEq] at e'
    subst e'
    rw [hh] at hk
    simp only [Option.some.injEq] at hk
    exact hn _ _ _ hk.symm ht
theorem OnlyT.grownAt {ts : List TypeId} {w w' w'' : World} (h : OnlyT ts w w') {b : Nat} {cs : Array Value} {t : TypeId} {m : Nat × Nat} (ha : w'.heap[b]? = some (.cells cs t m)) (hg : w'.grownBy w'' (some b)) (ht : t ∈ ts) : OnlyT ts w w'' := fun k o ho hn => by
  have hk := h k o ho hn
  refine (hg.block k (Array.getElem?_eq_some_iff.1 hk).1 (fun e' => ?_)).trans hk
  simp only [Option.some.injEq] at e'
  subst e'
  rw [ha] at hk
  simp only [Option.some.injEq] at hk
  exact hn _ _ _ hk.symm ht
theorem OnlyT.row {ts : List TypeId} {w w' : World} (h : OnlyT ts w w') {base size n : Nat} {e : TypeId} {v : Value} {xs : List Value} (hr : w.ownsRow base e size v n xs) (ht : e ∉ ts) : w'.ownsRow base e size v n xs := by
  obtain ⟨h1, h2⟩ := hr
  refine ⟨h1, h2.imp id ?_⟩
  rintro ⟨g, cap, cur, rfl, hb, hh, r⟩
  exact ⟨g, cap, cur, rfl, hb, h g _ hh (fun cs t m e' ht' => by cases e'; exact ht ht'), r⟩
theorem OnlyT.arr {ts : List TypeId} {w w' : World} (h : OnlyT ts w w') {g : Nat} {t : TypeId} {xs : List Value} (hr : Arr w g t xs) (ht : t ∉ ts) : Arr w' g t xs := h g _ hr (fun cs t' m e' ht' => by cases e'; exact ht ht')
theorem OnlyT.boxed {ts : List TypeId} {w w' : World} (h : OnlyT ts w w') {g : Nat} {t : TypeId} {v : Value} (hr : Boxed w g t v) (ht : t ∉ ts) : Boxed w' g t v := h g _ hr (fun cs t' m e' ht' => by cases e'; exact ht ht')
theorem OnlyT.mapIs {κ : Type} [DecidableEq κ] {P : Program} {kt : TypeId} {K : KeyK κ P kt} {ts : List TypeId} {w w' : World} (h : OnlyT ts w w') {b : Nat} {l : List (κ × Value)} (hr : MapIs K w b l) : MapIs K w' b l := by
  obtain ⟨es, clock, h1, h2⟩ := hr
  exact ⟨es, clock, h b _ h1 (fun cs t m e _ => by cases e), h2⟩
end Go.Proofs.Ytomlknjpaielgaa
