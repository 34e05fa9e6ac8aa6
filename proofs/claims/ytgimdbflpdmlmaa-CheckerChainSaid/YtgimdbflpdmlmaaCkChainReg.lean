/- CheckerChain: the statement that makes a function's name, whatever the order of its operations. No condition. -/
import Derived.Test.YtgimdbflpdmlmaaCkChainName
import Derived.Test.YtgimdbflpdmlmaaRegInv
import Derived.Test.YtgimdbflpdmlmaaCkByte
namespace Go.Proofs.Ytgimdbflpdmlmaa
set_option maxRecDepth 100000
open Go.RowKit Go.Shelf Go.Proofs.Ytgimdbflpdmlmaa.Ck

section
variable {P : Program} {Q : Exit → Act → World → Prop}
theorem wp_region_inv13 {id : Nat} {w : World} {l : List Oper} {F : Value → Value → Value → Value → Value → Value → Value → Value → Value → Value → Value → Value → Value → Act} (u0 u1 u2 u3 u4 u5 u6 u7 u8 u9 u10 u11 u12 : Value) (Inv : (Nat → Bool) → Value → Value → Value → Value → Value → Value → Value → Value → Value → Value → Value → Value → Value → World → Prop) (hm : P.follows .mixedOrders = true) (hacyc : onward l.toArray = true)
    (h0 : Inv (fun j => decide (l.length ≤ j)) u0 u1 u2 u3 u4 u5 u6 u7 u8 u9 u10 u11 u12 w.drew)
    (hstep : Steps (fun i o => ∀ (L : Nat → Bool) (v0 v1 v2 v3 v4 v5 v6 v7 v8 v9 v10 v11 v12 : Value) (w : World), L i = false → (o.after.all fun e => !Region.binds .any e || L e.on) = true → Inv L v0 v1 v2 v3 v4 v5 v6 v7 v8 v9 v10 v11 v12 w →
      ∀ K' : Act → World → Prop, (∀ v0 v1 v2 v3 v4 v5 v6 v7 v8 v9 v10 v11 v12 w, Inv (fun j => L j || j == i) v0 v1 v2 v3 v4 v5 v6 v7 v8 v9 v10 v11 v12 w → K' (F v0 v1 v2 v3 v4 v5 v6 v7 v8 v9 v10 v11 v12) w) → if Region.wanted o (yielded l.toArray (F v0 v1 v2 v3 v4 v5 v6 v7 v8 v9 v10 v11 v12).tmps) = true then Oper.wp P o (F v0 v1 v2 v3 v4 v5 v6 v7 v8 v9 v10 v11 v12) w K' Q else K' ((F v0 v1 v2 v3 v4 v5 v6 v7 v8 v9 v10 v11 v12).put o.dst undef) w) 0 l)
    (hend : ∀ v0 v1 v2 v3 v4 v5 v6 v7 v8 v9 v10 v11 v12 w, Inv (fun _ => true) v0 v1 v2 v3 v4 v5 v6 v7 v8 v9 v10 v11 v12 w → Q .normal (F v0 v1 v2 v3 v4 v5 v6 v7 v8 v9 v10 v11 v12) w) : (Code.region id l.toArray true).wp P Q (F u0 u1 u2 u3 u4 u5 u6 u7 u8 u9 u10 u11 u12) w := by
  refine wp_region_inv (fun L a w => ∃ v0 v1 v2 v3 v4 v5 v6 v7 v8 v9 v10 v11 v12, a = F v0 v1 v2 v3 v4 v5 v6 v7 v8 v9 v10 v11 v12 ∧ Inv L v0 v1 v2 v3 v4 v5 v6 v7 v8 v9 v10 v11 v12 w) hm hacyc ⟨_, _, _, _, _, _, _, _, _, _, _, _, _, rfl, h0⟩ (Steps.imp (fun i o h => ?_) hstep) ?_
  · rintro L _ w hL hd ⟨v0, v1, v2, v3, v4, v5, v6, v7, v8, v9, v10, v11, v12, rfl, hI⟩ K' hK
    exact h L v0 v1 v2 v3 v4 v5 v6 v7 v8 v9 v10 v11 v12 w hL hd hI K' fun x0 x1 x2 x3 x4 x5 x6 x7 x8 x9 x10 x11 x12 w hI => hK _ _ ⟨_, _, _, _, _, _, _, _, _, _, _, _, _, rfl, hI⟩
  · rintro _ w ⟨v0, v1, v2, v3, v4, v5, v6, v7, v8, v9, v10, v11, v12, rfl, hI⟩
    exact hend v0 v1 v2 v3 v4 v5 v6 v7 v8 v9 v10 v11 v12 w hI
end
/-- A function's box. -/
def FnBox (wr wx : World) (nm : ByteArray) (bv v : Value) : Prop := ∃ Z, v = .pointer (some ⟨Z, 0, none⟩) ∧ wr.heap.size ≤ Z ∧ wx.heap[Z]? = some (.cells #[.string nm, .slice none 0 0, .slice none 0 0, bv] 36 (0, 0)) ∧ Below wr.heap.size wr wx
/-- What the operations of L have left. -/
structure Nm8 (wr : World) (x q r : Nat) (S nm : ByteArray) (c : UInt8) (L : Nat → Bool) (v0 v1 v2 v3 v4 v5 v6 v7 v8 v9 v10 v11 v12 : Value) (wx : World) : Prop where
  bel : Below wr.heap.size wr wx
  p0 : L 0 = true → v0 = .int .i64 x
  p1 : L 1 = true → v1 = .int .i64 q
  p2 : L 2 = true → v2 = .string S
  p3 : L 3 = true → v3 = .string (⟨#[102]⟩ ++ S)
  p4 : L 4 = true → v4 = .int .i64 x
  p5 : L 5 = true → v5 = .int .i64 r
  p6 : L 6 = true → v6 = .int .i64 (97 + (r : Int))
  p7 : L 7 = true → v7 = .int .u8 (97 + (r : Int))
  p8 : L 8 = true → L 13 = false → ∃ g, v8 = .slice (some ⟨g, 0, none⟩) 1 1 ∧ wx.cell? ⟨g, 0, none⟩ = some (.int .u8 (97 + (r : Int))) ∧ g < wx.heap.size
  p9 : L 9 = true → v9 = .string ⟨#[c]⟩
  p10 : L 10 = true → v10 = .string nm
  p11 : L 11 = true → v11 = .agg #[.string nm, .slice none 0 0, .slice none 0 0, .slice none 0 0]
  p12 : L 12 = true → L 13 = false → ∃ Z, v12 = .pointer (some ⟨Z, 0, none⟩) ∧ wr.heap.size ≤ Z ∧ wx.heap[Z]? = some (.cells #[.string ⟨#[]⟩, .slice none 0 0, .slice none 0 0, .slice none 0 0] 36 (0, 0))
  p13 : L 13 = true → FnBox wr wx nm (.slice none 0 0) v12
  o13 : L 13 = true → L 11 = true ∧ L 12 = true
  o11 : L 11 = true → L 10 = true
  o10 : L 10 = true → L 3 = true ∧ L 9 = true
  o9 : L 9 = true → L 8 = true
  o3 : L 3 = true → L 2 = true
section
variable {wr wx : World} {x q r : Nat} {S nm : ByteArray} {c : UInt8} {L : Nat → Bool} {v0 v1 v2 v3 v4 v5 v6 v7 v8 v9 v10 v11 v12 : Value}
theorem Nm8.zero (u0 u1 u2 u3 u4 u5 u6 u7 u8 u9 u10 u11 u12 : Value) : Nm8 wr x q r S nm c (fun j => decide (14 ≤ j)) u0 u1 u2 u3 u4 u5 u6 u7 u8 u9 u10 u11 u12 wr.drew := by
  constructor <;> intros <;> first | exact (Below.refl _ _).drew | simp_all
theorem Nm8.no13 (h : Nm8 wr x q r S nm c L v0 v1 v2 v3 v4 v5 v6 v7 v8 v9 v10 v11 v12 wx) {i : Nat} (hL : L i = false) (hi : i = 2 ∨ i = 3 ∨ i = 8 ∨ i = 9 ∨ i = 10 ∨ i = 11 ∨ i = 12) : L 13 = false := by
  cases hh : L 13 with
  | false => rfl
  | true =>
    obtain ⟨a, b⟩ := h.o13 hh
    have k := h.o11 a
    obtain ⟨d, e⟩ := h.o10 k
    have f := h.o9 e
    have g := h.o3 d
    rcases hi with rfl | rfl | rfl | rfl | rfl | rfl | rfl <;> simp_all
theorem Nm8.moved {wy : World} (h : Nm8 wr x q r S nm c L v0 v1 v2 v3 v4 v5 v6 v7 v8 v9 v10 v11 v12 wx) (h13' : L 13 = false) (hb : Below wx.heap.size wx wy) : Nm8 wr x q r S nm c L v0 v1 v2 v3 v4 v5 v6 v7 v8 v9 v10 v11 v12 wy := by
  obtain ⟨b0, h0, h1, h2, h3, h4, h5, h6, h7, h8, h9, h10, h11, h12, h13, q13, q11, q10, q9, q3⟩ := h
  refine ⟨b0.trans (hb.mono b0.size), h0, h1, h2, h3, h4, h5, h6, h7, fun a b => ?_, h9, h10, h11, fun a b => ?_, fun a => by simp [h13'] at a, q13, q11, q10, q9, q3⟩
  · obtain ⟨g, e1, e2, e3⟩ := h8 a b
    exact ⟨g, e1, (hb.cell (p := ⟨g, 0, none⟩) e3).trans e2, Nat.lt_of_lt_of_le e3 hb.size⟩
  · obtain ⟨Z, e1, e2, e3⟩ := h12 a b
    exact ⟨Z, e1, e2, (hb.block Z (Array.getElem?_eq_some_iff.1 e3).1).trans e3⟩
theorem Nm8.put0 (h : Nm8 wr x q r S nm c L v0 v1 v2 v3 v4 v5 v6 v7 v8 v9 v10 v11 v12 wx)  : Nm8 wr x q r S nm c (fun j => L j || j == 0) (.int .i64 x) v1 v2 v3 v4 v5 v6 v7 v8 v9 v10 v11 v12 wx := by
  obtain ⟨b0, h0, h1, h2, h3, h4, h5, h6, h7, h8, h9, h10, h11, h12, h13, q13, q11, q10, q9, q3⟩ := h
  constructor <;> intros <;> simp_all
theorem Nm8.put1 (h : Nm8 wr x q r S nm c L v0 v1 v2 v3 v4 v5 v6 v7 v8 v9 v10 v11 v12 wx)  : Nm8 wr x q r S nm c (fun j => L j || j == 1) v0 (.int .i64 q) v2 v3 v4 v5 v6 v7 v8 v9 v10 v11 v12 wx := by
  obtain ⟨b0, h0, h1, h2, h3, h4, h5, h6, h7, h8, h9, h10, h11, h12, h13, q13, q11, q10, q9, q3⟩ := h
  constructor <;> intros <;> simp_all
theorem Nm8.put2 (h : Nm8 wr x q r S nm c L v0 v1 v2 v3 v4 v5 v6 v7 v8 v9 v10 v11 v12 wx)  : Nm8 wr x q r S nm c (fun j => L j || j == 2) v0 v1 (.string S) v3 v4 v5 v6 v7 v8 v9 v10 v11 v12 wx := by
  obtain ⟨b0, h0, h1, h2, h3, h4, h5, h6, h7, h8, h9, h10, h11, h12, h13, q13, q11, q10, q9, q3⟩ := h
  constructor <;> intros <;> simp_all
theorem Nm8.put3 (h : Nm8 wr x q r S nm c L v0 v1 v2 v3 v4 v5 v6 v7 v8 v9 v10 v11 v12 wx) (d2 : L 2 = true) : Nm8 wr x q r S nm c (fun j => L j || j == 3) v0 v1 v2 (.string (⟨#[102]⟩ ++ S)) v4 v5 v6 v7 v8 v9 v10 v11 v12 wx := by
  obtain ⟨b0, h0, h1, h2, h3, h4, h5, h6, h7, h8, h9, h10, h11, h12, h13, q13, q11, q10, q9, q3⟩ := h
  constructor <;> intros <;> simp_all
theorem Nm8.put4 (h : Nm8 wr x q r S nm c L v0 v1 v2 v3 v4 v5 v6 v7 v8 v9 v10 v11 v12 wx)  : Nm8 wr x q r S nm c (fun j => L j || j == 4) v0 v1 v2 v3 (.int .i64 x) v5 v6 v7 v8 v9 v10 v11 v12 wx := by
  obtain ⟨b0, h0, h1, h2, h3, h4, h5, h6, h7, h8, h9, h10, h11, h12, h13, q13, q11, q10, q9, q3⟩ := h
  constructor <;> intros <;> simp_all
theorem Nm8.put5 (h : Nm8 wr x q r S nm c L v0 v1 v2 v3 v4 v5 v6 v7 v8 v9 v10 v11 v12 wx)  : Nm8 wr x q r S nm c (fun j => L j || j == 5) v0 v1 v2 v3 v4 (.int .i64 r) v6 v7 v8 v9 v10 v11 v12 wx := by
  obtain ⟨b0, h0, h1, h2, h3, h4, h5, h6, h7, h8, h9, h10, h11, h12, h13, q13, q11, q10, q9, q3⟩ := h
  constructor <;> intros <;> simp_all
theorem Nm8.put6 (h : Nm8 wr x q r S nm c L v0 v1 v2 v3 v4 v5 v6 v7 v8 v9 v10 v11 v12 wx)  : Nm8 wr x q r S nm c (fun j => L j || j == 6) v0 v1 v2 v3 v4 v5 (.int .i64 (97 + (r : Int))) v7 v8 v9 v10 v11 v12 wx := by
  obtain ⟨b0, h0, h1, h2, h3, h4, h5, h6, h7, h8, h9, h10, h11, h12, h13, q13, q11, q10, q9, q3⟩ := h
  constructor <;> intros <;> simp_all
theorem Nm8.put7 (h : Nm8 wr x q r S nm c L v0 v1 v2 v3 v4 v5 v6 v7 v8 v9 v10 v11 v12 wx)  : Nm8 wr x q r S nm c (fun j => L j || j == 7) v0 v1 v2 v3 v4 v5 v6 (.int .u8 (97 + (r : Int))) v8 v9 v10 v11 v12 wx := by
  obtain ⟨b0, h0, h1, h2, h3, h4, h5, h6, h7, h8, h9, h10, h11, h12, h13, q13, q11, q10, q9, q3⟩ := h
  constructor <;> intros <;> simp_all
theorem Nm8.put9 (h : Nm8 wr x q r S nm c L v0 v1 v2 v3 v4 v5 v6 v7 v8 v9 v10 v11 v12 wx) (d8 : L 8 = true) : Nm8 wr x q r S nm c (fun j => L j || j == 9) v0 v1 v2 v3 v4 v5 v6 v7 v8 (.string ⟨#[c]⟩) v10 v11 v12 wx := by
  obtain ⟨b0, h0, h1, h2, h3, h4, h5, h6, h7, h8, h9, h10, h11, h12, h13, q13, q11, q10, q9, q3⟩ := h
  constructor <;> intros <;> simp_all
theorem Nm8.put10 (h : Nm8 wr x q r S nm c L v0 v1 v2 v3 v4 v5 v6 v7 v8 v9 v10 v11 v12 wx) (d3 : L 3 = true) (d9 : L 9 = true) : Nm8 wr x q r S nm c (fun j => L j || j == 10) v0 v1 v2 v3 v4 v5 v6 v7 v8 v9 (.string nm) v11 v12 wx := by
  obtain ⟨b0, h0, h1, h2, h3, h4, h5, h6, h7, h8, h9, h10, h11, h12, h13, q13, q11, q10, q9, q3⟩ := h
  constructor <;> intros <;> simp_all
theorem Nm8.put11 (h : Nm8 wr x q r S nm c L v0 v1 v2 v3 v4 v5 v6 v7 v8 v9 v10 v11 v12 wx) (d10 : L 10 = true) : Nm8 wr x q r S nm c (fun j => L j || j == 11) v0 v1 v2 v3 v4 v5 v6 v7 v8 v9 v10 (.agg #[.string nm, .slice none 0 0, .slice none 0 0, .slice none 0 0]) v12 wx := by
  obtain ⟨b0, h0, h1, h2, h3, h4, h5, h6, h7, h8, h9, h10, h11, h12, h13, q13, q11, q10, q9, q3⟩ := h
  constructor <;> intros <;> simp_all
theorem Nm8.put8 (h : Nm8 wr x q r S nm c L v0 v1 v2 v3 v4 v5 v6 v7 v8 v9 v10 v11 v12 wx) (hL : L 8 = false) : Nm8 wr x q r S nm c (fun j => L j || j == 8) v0 v1 v2 v3 v4 v5 v6 v7 (.slice (some ⟨wx.heap.size, 0, none⟩) 1 1) v9 v10 v11 v12 (wx.alloc (.cells #[.int .u8 (97 + (r : Int))] 5)) := by
  have hm := h.moved (h.no13 hL (by simp)) ((Below.refl _ _).alloc (Nat.le_refl _) (.cells #[.int .u8 (97 + (r : Int))] 5))
  have hn := h.no13 hL (by simp)
  clear h
  obtain ⟨b0, h0, h1, h2, h3, h4, h5, h6, h7, h8, h9, h10, h11, h12, h13, q13, q11, q10, q9, q3⟩ := hm
  have hc := cell_alloc_new wx (.int .u8 (97 + (r : Int))) 5
  refine ⟨b0, by intros; simp_all, by intros; simp_all, by intros; simp_all, by intros; simp_all, by intros; simp_all, by intros; simp_all, by intros; simp_all, by intros; simp_all, fun _ _ => ⟨_, rfl, hc, by simp⟩, by intros; simp_all, by intros; simp_all, by intros; simp_all, fun a b => h12 (by simpa using a) hn, fun a => by simp [hn] at a, by intros; simp_all, by intros; simp_all, by intros; simp_all, by intros; simp_all, by intros; simp_all⟩
theorem Nm8.put12 (h : Nm8 wr x q r S nm c L v0 v1 v2 v3 v4 v5 v6 v7 v8 v9 v10 v11 v12 wx) (hL : L 12 = false) : Nm8 wr x q r S nm c (fun j => L j || j == 12) v0 v1 v2 v3 v4 v5 v6 v7 v8 v9 v10 v11 (.pointer (some ⟨wx.heap.size, 0, none⟩)) (wx.alloc (.cells #[.string ⟨#[]⟩, .slice none 0 0, .slice none 0 0, .slice none 0 0] 36)) := by
  have hm := h.moved (h.no13 hL (by simp)) ((Below.refl _ _).alloc (Nat.le_refl _) (.cells #[.string ⟨#[]⟩, .slice none 0 0, .slice none 0 0, .slice none 0 0] 36))
  have hn := h.no13 hL (by simp)
  have hz := h.bel.size
  clear h
  obtain ⟨b0, h0, h1, h2, h3, h4, h5, h6, h7, h8, h9, h10, h11, h12, h13, q13, q11, q10, q9, q3⟩ := hm
  have hc := heap_alloc_new wx (.cells #[.string ⟨#[]⟩, .slice none 0 0, .slice none 0 0, .slice none 0 0] 36)
  refine ⟨b0, by intros; simp_all, by intros; simp_all, by intros; simp_all, by intros; simp_all, by intros; simp_all, by intros; simp_all, by intros; simp_all, by intros; simp_all, fun a _ => h8 (by simpa using a) hn, by intros; simp_all, by intros; simp_all, by intros; simp_all, fun _ _ => ⟨_, rfl, hz, hc⟩, fun a => by simp [hn] at a, by intros; simp_all, by intros; simp_all, by intros; simp_all, by intros; simp_all, by intros; simp_all⟩
theorem Nm8.put13 {wy : World} (h : Nm8 wr x q r S nm c L v0 v1 v2 v3 v4 v5 v6 v7 v8 v9 v10 v11 v12 wx) (d11 : L 11 = true) (d12 : L 12 = true) (hF : FnBox wr wy nm (.slice none 0 0) v12) : Nm8 wr x q r S nm c (fun j => L j || j == 13) v0 v1 v2 v3 v4 v5 v6 v7 v8 v9 v10 v11 v12 wy := by
  obtain ⟨b0, h0, h1, h2, h3, h4, h5, h6, h7, h8, h9, h10, h11, h12, h13, q13, q11, q10, q9, q3⟩ := h
  have hb := hF
  obtain ⟨_, _, _, _, hb⟩ := hb
  refine ⟨hb, by intros; simp_all, by intros; simp_all, by intros; simp_all, by intros; simp_all, by intros; simp_all, by intros; simp_all, by intros; simp_all, by intros; simp_all, fun _ a => by simp at a, by intros; simp_all, by intros; simp_all, by intros; simp_all, fun _ a => by simp at a, fun _ => hF, by intros; simp_all, by intros; simp_all, by intros; simp_all, by intros; simp_all, by intros; simp_all⟩
end
end Go.Proofs.Ytgimdbflpdmlmaa
