/- Slots of a region that draws its order, by what has been carried out. No condition. The machine's memory while : and the dot are carried out. No condition. -/
import Derived.Test.YtojgopbaiflfgaaGreatDoorTpExecBase
namespace Go.Proofs.YtojgopbaiflfgaaGreatDoor
set_option maxRecDepth 100000
open Go.RowKit Go.Shelf Go.Proofs.YtojgopbaiflfgaaGreatDoor.B2

/-- Each operation that has been carried out has left its value (where it is told). -/
def RG (es : List (Option Value)) (L : Nat → Bool) (vs : List Value) : Prop := ∀ i e, es[i]? = some (some e) → L i = true → vs[i]? = some e
theorem RG.zero {es : List (Option Value)} {vs : List Value} {n : Nat} (hn : es.length ≤ n) : RG es (fun j => decide (n ≤ j)) vs := fun i e he hL => by
  have := (List.getElem?_eq_some_iff.1 he).1
  rw [decide_eq_true_iff] at hL
  omega
theorem RG.at {es : List (Option Value)} {L : Nat → Bool} {vs : List Value} (h : RG es L vs) (i : Nat) {e v : Value} (he : es[i]? = some (some e)) (hv : vs[i]? = some v) (hL : L i = true) : v = e := by
  have := h i e he hL
  rw [hv] at this
  simpa using this
theorem RG.put {es : List (Option Value)} {L : Nat → Bool} {vs : List Value} (h : RG es L vs) (i : Nat) (e : Value) (hi : i < vs.length) (he : ∀ e', es[i]? = some (some e') → e' = e) : RG es (fun j => L j || j == i) (vs.set i e) := fun j u hu hL => by
  by_cases hj : j = i
  · subst hj
    rw [he u hu]
    simp [hi]
  · have hL' : L j = true := by simpa [hj] using hL
    rw [List.getElem?_set_ne (Ne.symm hj)]
    exact h j u hu hL'
theorem RG.keep {es : List (Option Value)} {L : Nat → Bool} {vs : List Value} (h : RG es L vs) (i : Nat) (he : es.length ≤ i) : RG es (fun j => L j || j == i) vs := fun j u hu hL => by
  have h1 := (List.getElem?_eq_some_iff.1 hu).1
  have hj : j ≠ i := by omega
  exact h j u hu (by simpa [hj] using hL)
section
variable {w : World} {base B M G k : Nat} {s : St}
theorem MIn.mem0 (h : MIn w base B M G s k) : w.cell? ⟨B, 0, none⟩ = some (.slice (some ⟨M, 0, none⟩) 262144 262144) := by obtain ⟨_, _, _, _, h⟩ := h; exact h.cell 0
theorem MIn.word (h : MIn w base B M G s k) {i : Nat} (hi : i < 262144) : w.cell? ⟨M, i, none⟩ = some (.int .u32 (W32 (s.mem i))) := by obtain ⟨_, _, _, _, h⟩ := h; exact h.mem.cell hi
theorem MIn.mlt (h : MIn w base B M G s k) : M < w.heap.size := by obtain ⟨_, _, _, _, h⟩ := h; exact h.mem.lt
theorem MIn.drew (h : MIn w base B M G s k) : MIn w.drew base B M G s k := by obtain ⟨_, _, _, _, h⟩ := h; exact ⟨_, _, _, _, h.drew⟩
theorem MIn.le (h : MIn w base B M G s k) : s.data.length ≤ 256 := by obtain ⟨_, _, _, _, h⟩ := h; exact h.d256
/-- The memory while @ is carried out. -/
structure S23 (w : World) (base B M G k : Nat) (s : St) (a : W) (d : List W) (c6 c9 : Bool) (wx : World) : Prop where
  mw : Mw base w wx
  h0 : c6 = false → MIn wx base B M G s k
  h6 : c6 = true → c9 = false → MIn wx base B M G { s with data := d } k
  h9 : c9 = true → c6 = true ∧ MIn wx base B M G { s with data := s.mem a.toNat :: d } k
theorem S23.any {wx : World} {a : W} {d : List W} {c6 c9 : Bool} (h : S23 w base B M G k s a d c6 c9 wx) : ∃ s', s'.mem = s.mem ∧ MIn wx base B M G s' k := by
  cases h6 : c6 with
  | false => exact ⟨_, rfl, h.h0 h6⟩
  | true =>
    cases h9 : c9 with
    | false => exact ⟨{ s with data := d }, rfl, h.h6 h6 h9⟩
    | true => exact ⟨{ s with data := s.mem a.toNat :: d }, rfl, (h.h9 h9).2⟩
/-- How a trap leaves the machine. -/
def TrapEnd (w : World) (base B M G k : Nat) (s : St) (e : Ending) (w' : World) : Prop := Traps e ∧ (∃ s', s'.out = s.out ∧ MIn w' base B M G s' k) ∧ Mw base w w'
theorem TrapEnd.same (h : MIn w base B M G s k) {e : Ending} (he : Traps e) : TrapEnd w base B M G k s e w := ⟨he, ⟨s, rfl, h⟩, Mw.refl _ _⟩
/-- A region whose call at 6 traps. -/
structure ST (w : World) (base B M G k : Nat) (s : St) (c6 c7 : Bool) (wx : World) : Prop where
  no : c6 = false
  no7 : c7 = false
  mw : Mw base w wx
  m : MIn wx base B M G s k
theorem ST.skip {L : Nat → Bool} {wx : World} (h : ST w base B M G k s (L 6) (L 7) wx) (i : Nat) (h6 : (6 == i) = false) (h7 : (7 == i) = false) : ST w base B M G k s ((fun j => L j || j == i) 6) ((fun j => L j || j == i) 7) wx := by
  simpa [h6, h7] using h
theorem ST.start (h : MIn w base B M G s k) : ST w base B M G k s false false w.drew := ⟨rfl, rfl, Mw.drew _ _, h.drew⟩
end

theorem Tryz.infoB : (Tryz.prog.info? 5).map (fun i => (i.zero, i.size, i.bytes)) = some (some (.int .u8 0), 1, 1) := by kernel_rfl
theorem cell_new {w : World} {u : Value} {t : TypeId} : (w.alloc (.cells #[u] t)).cell? ⟨w.heap.size, 0, none⟩ = some u := by
  have := heap_alloc_new w (.cells #[u] t)
  rw [World.cell?]
  simp only [this]
  rfl
theorem slc_one {w : World} {X : Nat} {u : Value} (hl : X < w.heap.size) (hc : w.cell? ⟨X, 0, none⟩ = some u) : Slc w 1 (.slice (some ⟨X, 0, none⟩) 1 1) 1 [u] :=
  ⟨_, _, rfl, Nat.le_refl _, by decide, rfl, .inr ⟨X, 0, rfl, hl, fun j v hj => by
    match j, hj with
    | 0, hj => simp only [List.getElem?_cons_zero, Option.some.injEq] at hj; subst hj; exact hc⟩⟩
structure S34 (w : World) (base B M G k : Nat) (s : St) (dv cv iv ov : Value) (c4 c8 c9 c10 c13 : Bool) (v9 v10 : Value) (wx : World) : Prop where
  mw : Mw base w wx
  o13 : c13 = true → c10 = true
  o10 : c10 = true → c9 = true ∧ c4 = true
  o9 : c9 = true → c8 = true
  m0 : c10 = false → MAt wx base B M G s k dv cv iv ov
  m9 : c9 = true → c10 = false → ∃ X, v9 = .slice (some ⟨X, 0, none⟩) 1 1 ∧ X < wx.heap.size ∧ wx.cell? ⟨X, 0, none⟩ = some (.int .u32 (W32 s.pc))
  m10 : c10 = true → c13 = false → ∃ a n c, v10 = .slice a n c ∧ wx.heap[B]? = some (.cells (boxC M G s k dv cv iv ov) 80 (0, 0)) ∧ MAt (wx.setCell ⟨B, 3, none⟩ v10) base B M G { s with calls := s.pc :: s.calls } k dv v10 iv ov ∧ Mw base w (wx.setCell ⟨B, 3, none⟩ v10)
  m13 : c13 = true → MIn wx base B M G { s with calls := s.pc :: s.calls } k
theorem S34.start {w : World} {base B M G k : Nat} {s : St} {dv cv iv ov v9 v10 : Value} (h : MAt w base B M G s k dv cv iv ov) : S34 w base B M G k s dv cv iv ov false false false false false v9 v10 w.drew :=
  ⟨Mw.drew _ _, (fun h => by cases h), (fun h => by cases h), (fun h => by cases h), fun _ => h.drew, (fun h => by cases h), (fun h => by cases h), (fun h => by cases h)⟩
structure S48 (w : World) (base B M G k : Nat) (s : St) (b : UInt8) (d : List W) (dv cv iv ov : Value) (c4 c6 c7 c8 c9 c12 : Bool) (v8 v9 : Value) (wx : World) : Prop where
  mw : Mw base w wx
  o12 : c12 = true → c9 = true
  o9 : c9 = true → c8 = true ∧ c4 = true
  o8 : c8 = true → c7 = true
  o7 : c7 = true → c6 = true
  m0 : c6 = false → MAt wx base B M G s k dv cv iv ov
  m6 : c6 = true → c9 = false → ∃ dv', MAt wx base B M G { s with data := d } k dv' cv iv ov
  m8 : c8 = true → c9 = false → ∃ X, v8 = .slice (some ⟨X, 0, none⟩) 1 1 ∧ X < wx.heap.size ∧ wx.cell? ⟨X, 0, none⟩ = some (.int .u8 (b.toNat : Int))
  m9 : c9 = true → c12 = false → ∃ dv' a n c, v9 = .slice a n c ∧ wx.heap[B]? = some (.cells (boxC M G { s with data := d } k dv' cv iv ov) 80 (0, 0)) ∧ MAt (wx.setCell ⟨B, 5, none⟩ v9) base B M G { s with out := s.out ++ [b], data := d } k dv' cv iv v9 ∧ Mw base w (wx.setCell ⟨B, 5, none⟩ v9)
  m12 : c12 = true → MIn wx base B M G { s with out := s.out ++ [b], data := d } k
theorem S48.start {w : World} {base B M G k : Nat} {s : St} {b : UInt8} {d : List W} {dv cv iv ov v8 v9 : Value} (h : MAt w base B M G s k dv cv iv ov) : S48 w base B M G k s b d dv cv iv ov false false false false false false v8 v9 w.drew :=
  ⟨Mw.drew _ _, (fun h => by cases h), (fun h => by cases h), (fun h => by cases h), (fun h => by cases h), fun _ => h.drew, (fun h => by cases h), (fun h => by cases h), (fun h => by cases h), (fun h => by cases h)⟩
theorem S48.five {w : World} {base B M G k : Nat} {s : St} {b : UInt8} {d : List W} {dv cv iv ov : Value} {c4 c6 c7 c8 c9 c12 : Bool} {v8 v9 : Value} {wx : World} (h : S48 w base B M G k s b d dv cv iv ov c4 c6 c7 c8 c9 c12 v8 v9 wx) (h4 : c4 = false) : wx.cell? ⟨B, 5, none⟩ = some ov ∧ B < wx.heap.size := by
  have h9 : c9 = false := by
    cases e : c9 with
    | false => rfl
    | true => rw [(h.o9 e).2] at h4; cases h4
  cases e : c6 with
  | false => exact ⟨(h.m0 e).cell 5, (h.m0 e).lt⟩
  | true =>
    obtain ⟨dv', hm⟩ := h.m6 e h9
    exact ⟨hm.cell 5, hm.lt⟩
/-- How a byte stands behind the conversion. -/
theorem low_W32 (v : W) : W32 v % 256 = ((lowB v).toNat : Int) := by
  unfold W32 lowB
  rw [UInt8.toNat_ofNat']
  omega
theorem low_wrap (v : W) : IntKind.u8.wrap (W32 v) = ((lowB v).toNat : Int) := by
  rw [IntKind.wrap_u8]
  exact low_W32 v
end Go.Proofs.YtojgopbaiflfgaaGreatDoor
