/- The reference's Put: the statement that makes the grown list of chunks, whatever the order of its operations. No condition. -/
import Derived.Test.YtomlknjpaielgaaRefInv
import Derived.Test.YtomlknjpaielgaaRegInv
namespace Go.Proofs.Ytomlknjpaielgaa
set_option maxRecDepth 100000
open Go.RowKit Go.Shelf Go.Proofs.Ytomlknjpaielgaa.Store

/-- What the operations of L have left: w0 is the world ahead of the statement. -/
structure Rows21 (w w5 w0 : World) (ses : Int) (p1 : List Chk) (p2 : ByteArray) (p3 : List Ext) (cv ov : Value) (d : ByteArray) (x : Ext) (E : Nat) (L : Nat → Bool) (v0 v1 v2 v3 v4 v5 v6 v7 v8 v9 : Value) (wx : World) : Prop where
  bel : L 10 = false → Below w0.heap.size w0 wx
  o10 : L 10 = true → L 8 = true ∧ L 9 = true
  o8 : L 8 = true → L 3 = true ∧ L 7 = true
  o3 : L 3 = true → L 0 = true ∧ L 2 = true
  o7 : L 7 = true → L 6 = true
  o6 : L 6 = true → L 4 = true ∧ L 5 = true
  made : L 0 = true → L 3 = false → wx.ownsRow w0.heap.size 44 4 v0 0 []
  box : L 1 = true → v1 = .pointer (some ⟨w.heap.size, 0, none⟩)
  old : L 2 = true → v2 = cv
  copy : L 3 = true → L 8 = false → wx.ownsRow w0.heap.size 44 4 v3 p1.length (chkCells p1)
  dg : L 4 = true → v4 = .string d
  ext : L 5 = true → v5 = extA x
  chk : L 6 = true → v6 = .agg (chkV (d, x)).toArray
  lit : L 7 = true → L 8 = false → ∃ g, v7 = .slice (some ⟨g, 0, none⟩) 1 1 ∧ Arr wx g 44 (chkV (d, x)) ∧ w0.heap.size ≤ g ∧ (L 0 = true → L 3 = false → v0.ownBlock ≠ some g) ∧ (L 3 = true → v3.ownBlock ≠ some g)
  new : L 8 = true → L 10 = false → OwnChks w0.heap.size wx v8 (p1 ++ [(d, x)])
  ptr : L 9 = true → v9 = .pointer (some ⟨w.heap.size, 0, none⟩)
  fin : L 10 = true → RefInv w w5 ses (p1 ++ [(d, x)]) p2 p3 wx v8 ov ∧ Arr wx E 42 (extV x)

section
variable {w w5 w0 wx : World} {ses : Int} {p1 : List Chk} {p2 : ByteArray} {p3 : List Ext} {cv ov : Value} {d : ByteArray} {x : Ext} {E : Nat} {L : Nat → Bool} {v0 v1 v2 v3 v4 v5 v6 v7 v8 v9 : Value}
theorem Rows21.zero (u0 u1 u2 u3 u4 u5 u6 u7 u8 u9 : Value) : Rows21 w w5 w0 ses p1 p2 p3 cv ov d x E (fun j => decide (11 ≤ j)) u0 u1 u2 u3 u4 u5 u6 u7 u8 u9 w0.drew := by
  constructor <;> intro h <;> first | (simp at h; done) | skip
  exact (Below.refl _ _).drew
theorem Rows21.no10 (h : Rows21 w w5 w0 ses p1 p2 p3 cv ov d x E L v0 v1 v2 v3 v4 v5 v6 v7 v8 v9 wx) {i : Nat} (hi : i < 10) (hL : L i = false) (hc : i = 8 ∨ i = 9 ∨ i = 3 ∨ i = 7 ∨ i = 0 ∨ i = 2 ∨ i = 6 ∨ L 8 = false ∨ L 9 = false) : L 10 = false := by
  cases hh : L 10 with
  | false => rfl
  | true =>
    obtain ⟨a, b⟩ := h.o10 hh
    obtain ⟨c, e⟩ := h.o8 a
    obtain ⟨f, g⟩ := h.o3 c
    have k := h.o7 e
    rcases hc with rfl | rfl | rfl | rfl | rfl | rfl | rfl | hc | hc <;> simp_all
theorem owns_low {w w' : World} {base : Nat} {e : TypeId} {size : Nat} {v : Value} {n : Nat} {xs : List Value} (h : w.ownsRow base e size v n xs) (hb : Below w.heap.size w w') : w'.ownsRow base e size v n xs := by
  obtain ⟨h1, h2⟩ := h
  refine ⟨h1, h2.imp id ?_⟩
  rintro ⟨g, cap, cur, rfl, hg, hh, r⟩
  exact ⟨g, cap, cur, rfl, hg, (hb.block g (Array.getElem?_eq_some_iff.1 hh).1).trans hh, r⟩
theorem Rows21.moved {wy : World} (h : Rows21 w w5 w0 ses p1 p2 p3 cv ov d x E L v0 v1 v2 v3 v4 v5 v6 v7 v8 v9 wx) (h10 : L 10 = false) (hb : Below wx.heap.size wx wy) : Rows21 w w5 w0 ses p1 p2 p3 cv ov d x E L v0 v1 v2 v3 v4 v5 v6 v7 v8 v9 wy := by
  have hz := (h.bel h10).size
  refine ⟨fun _ => (h.bel h10).trans (hb.mono hz), h.o10, h.o8, h.o3, h.o7, h.o6, fun a b => owns_low (h.made a b) hb, h.box, h.old, fun a b => owns_low (h.copy a b) hb, h.dg, h.ext, h.chk, fun a b => ?_, fun a b => OwnChks.below (h.new a b) hb, h.ptr, fun a => by simp [h10] at a⟩
  obtain ⟨g, e, ha, r⟩ := h.lit a b
  exact ⟨g, e, ha.below hb ha.lt, r⟩
theorem Rows21.put1 (h : Rows21 w w5 w0 ses p1 p2 p3 cv ov d x E L v0 v1 v2 v3 v4 v5 v6 v7 v8 v9 wx) : Rows21 w w5 w0 ses p1 p2 p3 cv ov d x E (fun j => L j || j == 1) v0 (.pointer (some ⟨w.heap.size, 0, none⟩)) v2 v3 v4 v5 v6 v7 v8 v9 wx := by
  obtain ⟨h1, h2, h3, h4, h5, h6, h7, h8, h9, h10, h11, h12, h13, h14, h15, h16, h17⟩ := h
  constructor <;> intros <;> simp_all
theorem Rows21.put2 (h : Rows21 w w5 w0 ses p1 p2 p3 cv ov d x E L v0 v1 v2 v3 v4 v5 v6 v7 v8 v9 wx) : Rows21 w w5 w0 ses p1 p2 p3 cv ov d x E (fun j => L j || j == 2) v0 v1 (cv) v3 v4 v5 v6 v7 v8 v9 wx := by
  obtain ⟨h1, h2, h3, h4, h5, h6, h7, h8, h9, h10, h11, h12, h13, h14, h15, h16, h17⟩ := h
  constructor <;> intros <;> simp_all
theorem Rows21.put4 (h : Rows21 w w5 w0 ses p1 p2 p3 cv ov d x E L v0 v1 v2 v3 v4 v5 v6 v7 v8 v9 wx) : Rows21 w w5 w0 ses p1 p2 p3 cv ov d x E (fun j => L j || j == 4) v0 v1 v2 v3 (.string d) v5 v6 v7 v8 v9 wx := by
  obtain ⟨h1, h2, h3, h4, h5, h6, h7, h8, h9, h10, h11, h12, h13, h14, h15, h16, h17⟩ := h
  constructor <;> intros <;> simp_all
theorem Rows21.put5 (h : Rows21 w w5 w0 ses p1 p2 p3 cv ov d x E L v0 v1 v2 v3 v4 v5 v6 v7 v8 v9 wx) : Rows21 w w5 w0 ses p1 p2 p3 cv ov d x E (fun j => L j || j == 5) v0 v1 v2 v3 v4 (extA x) v6 v7 v8 v9 wx := by
  obtain ⟨h1, h2, h3, h4, h5, h6, h7, h8, h9, h10, h11, h12, h13, h14, h15, h16, h17⟩ := h
  constructor <;> intros <;> simp_all
theorem Rows21.put6 (h : Rows21 w w5 w0 ses p1 p2 p3 cv ov d x E L v0 v1 v2 v3 v4 v5 v6 v7 v8 v9 wx) (h4' : L 4 = true) (h5' : L 5 = true) : Rows21 w w5 w0 ses p1 p2 p3 cv ov d x E (fun j => L j || j == 6) v0 v1 v2 v3 v4 v5 (.agg (chkV (d, x)).toArray) v7 v8 v9 wx := by
  obtain ⟨h1, h2, h3, h4, h5, h6, h7, h8, h9, h10, h11, h12, h13, h14, h15, h16, h17⟩ := h
  constructor <;> intros <;> simp_all
theorem Rows21.put9 (h : Rows21 w w5 w0 ses p1 p2 p3 cv ov d x E L v0 v1 v2 v3 v4 v5 v6 v7 v8 v9 wx) : Rows21 w w5 w0 ses p1 p2 p3 cv ov d x E (fun j => L j || j == 9) v0 v1 v2 v3 v4 v5 v6 v7 v8 (.pointer (some ⟨w.heap.size, 0, none⟩)) wx := by
  obtain ⟨h1, h2, h3, h4, h5, h6, h7, h8, h9, h10, h11, h12, h13, h14, h15, h16, h17⟩ := h
  constructor <;> intros <;> simp_all
theorem Rows21.before3 (h : Rows21 w w5 w0 ses p1 p2 p3 cv ov d x E L v0 v1 v2 v3 v4 v5 v6 v7 v8 v9 wx) (hL : L 3 = false) : L 8 = false ∧ L 10 = false := by
  have h8 : L 8 = false := by
    cases hh : L 8 with
    | false => rfl
    | true => have := (h.o8 hh).1; simp [hL] at this
  exact ⟨h8, h.no10 (i := 8) (by decide) h8 (by simp)⟩
theorem Rows21.put0 (h : Rows21 w w5 w0 ses p1 p2 p3 cv ov d x E L v0 v1 v2 v3 v4 v5 v6 v7 v8 v9 wx) (hL : L 0 = false) : Rows21 w w5 w0 ses p1 p2 p3 cv ov d x E (fun j => L j || j == 0) (.slice (some ⟨wx.heap.size, 0, none⟩) 0 0) v1 v2 v3 v4 v5 v6 v7 v8 v9 (wx.alloc (.cells #[] 44)) := by
  have h3' : L 3 = false := by
    cases hh : L 3 with
    | false => rfl
    | true => have := (h.o3 hh).1; simp [hL] at this
  obtain ⟨h8', h10'⟩ := h.before3 h3'
  have hr := World.ownsRow_made (base := w0.heap.size) (e := 44) (size := 4) wx #[] 0 (h.bel h10').size (by decide) rfl
  have hl := h.lit
  have hm := h.moved h10' ((Below.refl _ _).alloc (Nat.le_refl _) (.cells #[] 44))
  clear h
  obtain ⟨h1, h2, h3, h4, h5, h6, h7, h8, h9, h10, h11, h12, h13, h14, h15, h16, h17⟩ := hm
  exact ⟨by intros; simp_all,
    by intros; simp_all,
    by intros; simp_all,
    by intros; simp_all,
    by intros; simp_all,
    by intros; simp_all,
    fun _ _ => by simpa using hr,
    by intros; simp_all,
    by intros; simp_all,
    by intros; simp_all,
    by intros; simp_all,
    by intros; simp_all,
    by intros; simp_all,
    fun a b => by
      obtain ⟨g, e1, e2, e3, e4, e5⟩ := hl (by simpa using a) h8'
      exact ⟨g, e1, e2.alloc _, e3, fun _ _ e => by simp only [Value.ownBlock, Option.some.injEq] at e; have := e2.lt; omega, fun a => by simp [h3'] at a⟩,
    by intros; simp_all,
    by intros; simp_all,
    by intros; simp_all⟩
theorem Rows21.put3 {wy : World} {v' : Value} (h : Rows21 w w5 w0 ses p1 p2 p3 cv ov d x E L v0 v1 v2 v3 v4 v5 v6 v7 v8 v9 wx) (hL : L 3 = false) (h0 : L 0 = true) (h2' : L 2 = true) (hown : wy.ownsRow w0.heap.size 44 4 v' (0 + p1.length) ([] ++ chkCells p1)) (hg : wx.grownBy wy v0.ownBlock)
    (hat : v'.ownBlock = v0.ownBlock ∨ v'.ownBlock = some wx.heap.size) : Rows21 w w5 w0 ses p1 p2 p3 cv ov d x E (fun j => L j || j == 3) v0 v1 v2 v' v4 v5 v6 v7 v8 v9 wy := by
  obtain ⟨h8', h10'⟩ := h.before3 hL
  rw [Nat.zero_add, List.nil_append] at hown
  have hmd := h.made h0 hL
  have hb : Below w0.heap.size w0 wy := (h.bel h10').grown hg (h.bel h10').size (fun k hk => (World.ownsRow.lt hmd k hk).1)
  obtain ⟨h1, h2, h3, h4, h5, h6, h7, h8, h9, h10, h11, h12, h13, h14, h15, h16, h17⟩ := h
  exact ⟨fun _ => hb,
    by intros; simp_all,
    by intros; simp_all,
    by intros; simp_all,
    by intros; simp_all,
    by intros; simp_all,
    fun _ a => by simp at a,
    by intros; simp_all,
    by intros; simp_all,
    fun _ _ => hown,
    by intros; simp_all,
    by intros; simp_all,
    by intros; simp_all,
    fun a b => by
      obtain ⟨g, e1, e2, e3, e4, e5⟩ := h14 (by simpa using a) h8'
      refine ⟨g, e1, e2.kept hg (fun e => e4 h0 hL e.symm), e3, fun _ a => by simp at a, fun _ e => ?_⟩
      rcases hat with hat | hat
      · exact e4 h0 hL (hat.symm.trans e)
      · rw [hat] at e; simp only [Option.some.injEq] at e; have := e2.lt; omega,
    fun a => by simp [h8'] at a,
    by intros; simp_all,
    fun a => by simp [h10'] at a⟩
theorem Rows21.put7 (h : Rows21 w w5 w0 ses p1 p2 p3 cv ov d x E L v0 v1 v2 v3 v4 v5 v6 v7 v8 v9 wx) (hL : L 7 = false) (h6' : L 6 = true) : Rows21 w w5 w0 ses p1 p2 p3 cv ov d x E (fun j => L j || j == 7) v0 v1 v2 v3 v4 v5 v6 (.slice (some ⟨wx.heap.size, 0, none⟩) 1 1) v8 v9 (wx.alloc (.cells (chkV (d, x)).toArray 44)) := by
  have h8' : L 8 = false := by
    cases hh : L 8 with
    | false => rfl
    | true => have := (h.o8 hh).2; simp [hL] at this
  have h10' := h.no10 (i := 8) (by decide) h8' (by simp)
  have hmd := h.made
  have hcp := h.copy
  have hz := (h.bel h10').size
  have hm := h.moved h10' ((Below.refl _ _).alloc (Nat.le_refl _) (.cells (chkV (d, x)).toArray 44))
  clear h
  obtain ⟨h1, h2, h3, h4, h5, h6, h7, h8, h9, h10, h11, h12, h13, h14, h15, h16, h17⟩ := hm
  exact ⟨by intros; simp_all,
    by intros; simp_all,
    by intros; simp_all,
    by intros; simp_all,
    by intros; simp_all,
    by intros; simp_all,
    by intros; simp_all,
    by intros; simp_all,
    by intros; simp_all,
    by intros; simp_all,
    by intros; simp_all,
    by intros; simp_all,
    by intros; simp_all,
    fun a b => by
      refine ⟨wx.heap.size, rfl, Arr.new _ _ _, hz, fun a b e => ?_, fun a e => ?_⟩
      · have := (World.ownsRow.lt (hmd (by simpa using a) (by simpa using b)) _ e).2; omega
      · have := (World.ownsRow.lt (hcp (by simpa using a) h8') _ e).2; omega,
    by intros; simp_all,
    by intros; simp_all,
    by intros; simp_all⟩
theorem Rows21.put8 {wy : World} {v' : Value} (h : Rows21 w w5 w0 ses p1 p2 p3 cv ov d x E L v0 v1 v2 v3 v4 v5 v6 v7 v8 v9 wx) (hL : L 8 = false) (h3' : L 3 = true) (h7' : L 7 = true) (hown : wy.ownsRow w0.heap.size 44 4 v' (p1.length + 1) (chkCells p1 ++ (chkV (d, x)))) (hg : wx.grownBy wy v3.ownBlock) : Rows21 w w5 w0 ses p1 p2 p3 cv ov d x E (fun j => L j || j == 8) v0 v1 v2 v3 v4 v5 v6 v7 v' v9 wy := by
  have h10' := h.no10 (i := 8) (by decide) hL (by simp)
  have hcp := h.copy h3' hL
  have hb : Below w0.heap.size w0 wy := (h.bel h10').grown hg (h.bel h10').size (fun k hk => (World.ownsRow.lt hcp k hk).1)
  have hnew : OwnChks w0.heap.size wy v' (p1 ++ [(d, x)]) := by
    unfold OwnChks
    rw [List.length_append, List.length_singleton, chkCells_append]
    simpa [chkCells] using hown
  obtain ⟨h1, h2, h3, h4, h5, h6, h7, h8, h9, h10, h11, h12, h13, h14, h15, h16, h17⟩ := h
  exact ⟨fun _ => hb,
    by intros; simp_all,
    by intros; simp_all,
    by intros; simp_all,
    by intros; simp_all,
    by intros; simp_all,
    fun a b => by simp [h3'] at b,
    by intros; simp_all,
    by intros; simp_all,
    fun _ a => by simp at a,
    by intros; simp_all,
    by intros; simp_all,
    by intros; simp_all,
    fun _ a => by simp at a,
    fun _ _ => hnew,
    by intros; simp_all,
    fun a => by simp [h10'] at a⟩
theorem Rows21.put10 (h : Rows21 w w5 w0 ses p1 p2 p3 cv ov d x E L v0 v1 v2 v3 v4 v5 v6 v7 v8 v9 wx) (hL : L 10 = false) (h8' : L 8 = true) (h9' : L 9 = true) (hI : RefInv w w5 ses p1 p2 p3 w0 cv ov) (hE : Arr w0 E 42 (extV x)) : Rows21 w w5 w0 ses p1 p2 p3 cv ov d x E (fun j => L j || j == 10) v0 v1 v2 v3 v4 v5 v6 v7 v8 v9 (wx.setCell ⟨w.heap.size, 0, none⟩ v8) := by
  have hb := h.bel hL
  have hI2 := hI.below hb
  have hE2 := hE.below hb hE.lt
  have hn := h.new h8' hL
  have hfin := hI2.rowed (ownsRow_base hn hI.bel.size) (Below.refl _ _ |>.mono hI2.bel.size) (OnlyT.refl _ _)
  have hEf := (OnlyT.setCell (OnlyT.refl [27] wx) (a := ⟨w.heap.size, 0, none⟩) hI2.box (by simp) v8).arr hE2 (by decide)
  obtain ⟨h3', h7'⟩ := h.o8 h8'
  obtain ⟨h1, h2, h3, h4, h5, h6, h7, h8, h9, h10, h11, h12, h13, h14, h15, h16, h17⟩ := h
  exact ⟨fun a => by simp at a,
    by intros; simp_all,
    by intros; simp_all,
    by intros; simp_all,
    by intros; simp_all,
    by intros; simp_all,
    fun a b => by simp [h3'] at b,
    by intros; simp_all,
    by intros; simp_all,
    fun _ a => by simp [h8'] at a,
    by intros; simp_all,
    by intros; simp_all,
    by intros; simp_all,
    fun _ a => by simp [h8'] at a,
    fun _ a => by simp at a,
    by intros; simp_all,
    fun _ => ⟨hfin, hEf⟩⟩
end
end Go.Proofs.Ytomlknjpaielgaa
