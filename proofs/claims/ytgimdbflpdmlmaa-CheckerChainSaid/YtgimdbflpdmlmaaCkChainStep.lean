/- CheckerChain: a body made, a name written, a function appended. No condition. -/
import Derived.Test.YtgimdbflpdmlmaaCkChainReg
namespace Go.Proofs.Ytgimdbflpdmlmaa
set_option maxRecDepth 100000
open Go.RowKit Go.Shelf Go.Proofs.Ytgimdbflpdmlmaa.Ck

theorem row_form' {w : World} {base : Nat} {e : TypeId} {size : Nat} {v : Value} {n : Nat} {xs : List Value} (h : w.ownsRow base e size v n xs) (hn : 0 < n) : ∃ g cap, v = .slice (some ⟨g, 0, none⟩) n cap ∧ base ≤ g ∧ g < w.heap.size := by
  rcases h.2 with ⟨_, h0⟩ | ⟨g, cap, cur, hv, hb, hg, _⟩
  · omega
  · exact ⟨g, cap, hv, hb, (Array.getElem?_eq_some_iff.1 hg).1⟩
theorem row_type {w : World} {base : Nat} {v : Value} {n : Nat} {xs : List Value} (h : w.ownsRow base 36 4 v n xs) : ∀ g, v.ownBlock = some g → ∃ cs t m, w.heap[g]? = some (.cells cs t m) ∧ t ≠ 46 ∧ t ≠ 42 := fun g hg => by
  rcases h.2 with ⟨rfl, _⟩ | ⟨g', cap, cur, rfl, hb, hh, _⟩
  · cases hg
  · cases hg
    exact ⟨_, _, _, hh, by decide, by decide⟩
/-- A cell of the function's own box is written. -/
theorem ChSt.set {w wr : World} {P k x : Nat} {v : Value} (h : ChSt w wr P k x v) {Z : Nat} {cs : Array Value} (hZ : wr.heap[Z]? = some (.cells cs 36 (0, 0))) (hP : P < Z) (hv : ∀ g, v.ownBlock = some g → g ≠ Z) (j : Nat) (u : Value) : ChSt w (wr.setCell ⟨Z, j, none⟩ u) P k x v := by
  obtain ⟨cs', h1, h2⟩ := h.row
  have gs := grown_setCell wr ⟨Z, j, none⟩ u
  have hne : some P ≠ some Z := fun e => by cases e; omega
  refine ⟨h.low.grown gs h.low.size (fun g hg => by cases hg; have := h.hw; show w.heap.size ≤ Z; omega), h.hw, (gs.block P (Array.getElem?_eq_some_iff.1 h.pb).1 hne).trans h.pb, cs', World.ownsRow.kept h1 gs ?_, ChRow.grown gs (fun g hg => by cases hg; exact ⟨_, _, _, hZ, by decide, by decide⟩) h2⟩
  cases hq : v.ownBlock with
  | none => exact .inl rfl
  | some g => exact .inr (fun e => hv g hq (Option.some.inj e))
/-- The body is made and written. -/
theorem ch_body {w wn W : World} {P k x Z : Nat} {v : Value} {nm : ByteArray} (h : ChSt w wn P k x v) (hZ : wn.heap[Z]? = some (.cells #[.string nm, .slice none 0 0, .slice none 0 0, .slice none 0 0] 36 (0, 0))) (hP : P < Z) (hv : ∀ g, v.ownBlock = some g → g ≠ Z) (hx : x ≠ 0)
    (hW : W = (((wn.setCell ⟨Z, 3, none⟩ (.slice (some ⟨wn.heap.size + 1, 0, none⟩) 1 1)).alloc (.cells #[.string ⟨#[99, 97, 108, 108]⟩, .int .u32 0, .string (nmC (x - 1)), .slice none 0 0] 42)).alloc (.cells #[.int .i64 6, .string ⟨#[]⟩, .slice none 0 0, .slice (some ⟨wn.heap.size, 0, none⟩) 1 1, .slice none 0 0, .slice none 0 0] 46))) :
    ChSt w W P k x v ∧ W.heap[Z]? = some (.cells #[.string nm, .slice none 0 0, .slice none 0 0, .slice (some ⟨wn.heap.size + 1, 0, none⟩) 1 1] 36 (0, 0)) ∧ BodyC W x (.slice (some ⟨wn.heap.size + 1, 0, none⟩) 1 1) := by
  have hZl := (Array.getElem?_eq_some_iff.1 hZ).1
  have h1 := h.set hZ hP hv 3 (.slice (some ⟨wn.heap.size + 1, 0, none⟩) 1 1)
  have e1 := heap_setCell_same wn Z 3 _ _ (.slice (some ⟨wn.heap.size + 1, 0, none⟩) 1 1) hZ
  have hs1 : (wn.setCell ⟨Z, 3, none⟩ (.slice (some ⟨wn.heap.size + 1, 0, none⟩) 1 1)).heap.size = wn.heap.size := by simp
  generalize wn.setCell ⟨Z, 3, none⟩ (.slice (some ⟨wn.heap.size + 1, 0, none⟩) 1 1) = w1 at *
  have b2 : Below w1.heap.size w1 (w1.alloc (.cells #[.string ⟨#[99, 97, 108, 108]⟩, .int .u32 0, .string (nmC (x - 1)), .slice none 0 0] 42)) := (Below.refl _ _).alloc (Nat.le_refl _) _
  have e2 := heap_alloc_new w1 (.cells #[.string ⟨#[99, 97, 108, 108]⟩, .int .u32 0, .string (nmC (x - 1)), .slice none 0 0] 42)
  have hs2 : (w1.alloc (.cells #[.string ⟨#[99, 97, 108, 108]⟩, .int .u32 0, .string (nmC (x - 1)), .slice none 0 0] 42)).heap.size = w1.heap.size + 1 := World.size_alloc ..
  generalize w1.alloc (.cells #[.string ⟨#[99, 97, 108, 108]⟩, .int .u32 0, .string (nmC (x - 1)), .slice none 0 0] 42) = w2 at *
  have b3 : Below w2.heap.size w2 W := by rw [hW]; exact (Below.refl _ _).alloc (Nat.le_refl _) _
  have e3 : W.heap[w2.heap.size]? = some (.cells #[.int .i64 6, .string ⟨#[]⟩, .slice none 0 0, .slice (some ⟨wn.heap.size, 0, none⟩) 1 1, .slice none 0 0, .slice none 0 0] 46 (0, 0)) := by rw [hW]; exact heap_alloc_new w2 _
  have b13 : Below w1.heap.size w1 W := b2.trans (b3.mono b2.size)
  refine ⟨h1.below b13, (b13.block Z (Array.getElem?_eq_some_iff.1 e1).1).trans e1, .inr ⟨hx, wn.heap.size + 1, wn.heap.size, rfl, ?_, ?_⟩⟩
  · rw [hs2, hs1] at e3; exact e3
  · rw [hs1] at e2; exact (b3.block wn.heap.size (by omega)).trans e2
/-- The function is appended. -/
theorem ch_step {w wr w9 : World} {P k x : Nat} {v v' bv : Value} {rs : List Value} {cs : Array Value} {T : TypeId} (h : ChSt w wr P k x v) (hr : wr.ownsRow (P + 1) 36 4 v x rs) (hc : ChRow wr k x rs) (hb : BodyC wr x bv)
    (h9 : w9.ownsRow (P + 1) 36 4 v' (x + 1) (rs ++ [.string (nmK k x), .slice none 0 0, .slice none 0 0, bv])) (hg : (wr.alloc (.cells cs T)).grownBy w9 v.ownBlock) :
    ChSt w (w9.setCell ⟨P, 2, none⟩ v') P k (x + 1) v' ∧ w9.cell? ⟨P, 2, none⟩ = some v ∧ w9.frozen? ⟨P, 2, none⟩ = false ∧ P < w9.heap.size := by
  have ha : Below wr.heap.size wr (wr.alloc (.cells cs T)) := (Below.refl _ _).alloc (Nat.le_refl _) _
  have hsz : (wr.alloc (.cells cs T)).heap.size = wr.heap.size + 1 := World.size_alloc ..
  have hlt := World.ownsRow.lt hr
  have hra : (wr.alloc (.cells cs T)).ownsRow (P + 1) 36 4 v x rs := World.ownsRow.alloc hr _
  have hPl := (Array.getElem?_eq_some_iff.1 h.pb).1
  have p9 := (hg.block P (by omega) (fun e => by have := (hlt P e.symm).1; omega)).trans ((ha.block P hPl).trans h.pb)
  have low9 : Below w.heap.size w w9 := (h.low.trans (ha.mono h.low.size)).grown hg (by have := h.low.size; omega) (fun g hg' => by have := (hlt g hg').1; have := h.hw; omega)
  have gs := grown_setCell w9 ⟨P, 2, none⟩ v'
  refine ⟨⟨low9.grown gs low9.size (fun g hg' => by cases hg'; exact h.hw), h.hw, heap_setCell_same w9 P 2 _ _ v' p9, _, World.ownsRow.kept h9 gs (.inr (fun e => by have := (World.ownsRow.lt h9 P e).1; omega)), ?_⟩, by simp [World.cell?, p9], by simp [World.frozen?, p9], (Array.getElem?_eq_some_iff.1 p9).1⟩
  have hP9 : ∀ g, some P = some g → ∃ cs t m, w9.heap[g]? = some (.cells cs t m) ∧ t ≠ 46 ∧ t ≠ 42 := fun g e => by cases e; exact ⟨_, _, _, p9, by decide, by decide⟩
  exact ⟨rs, bv, rfl, ChRow.grown gs hP9 (ChRow.grown hg (row_type hra) (hc.below ha)), (hb.grown (grown_none ha) (fun g e => by cases e) |>.grown hg (row_type hra)).grown gs hP9⟩
end Go.Proofs.Ytgimdbflpdmlmaa
