/- What the region that stores a frame in Load's map has left at any moment. No condition. What Load's last loop holds: the builder, the missing numbers. No condition. -/
import Derived.Test.YtojgopbaiflfgaaGreatDoorTpPc
import Derived.Test.YtojgopbaiflfgaaGreatDoorRegInvIn
namespace Go.Proofs.YtojgopbaiflfgaaGreatDoor
set_option maxRecDepth 100000
open Go.RowKit Go.Shelf

/-- Load's cells while the total (c7) and the map (c8) are written. -/
structure LdSt (W0 W : World) (B b4 b5 b6 b7 b8 M bA Y : Nat) (arch tot : Nat) (T : ByteArray) (pre : List Nat) (i : Nat) (c7 c8 : Bool) (wx : World) : Prop where
  r4 : Boxed wx b4 9 (.string ⟨#[]⟩)
  r5 : Boxed wx b5 30 (.slice none 0 0)
  r6 : Boxed wx b6 26 (.int .i64 0)
  tt : Boxed wx b7 3 (.int .i64 (if c7 then tot else totB tot pre))
  tx : Boxed wx b8 66 (.map (some M))
  mp : MapIs kInt wx M (if c8 then mapT T (pre ++ [i]) else mapT T pre)
  ar : Boxed wx bA 29 (.int .u32 arch)
  yb : wx.heap[Y]? = some (.cells #[.int .u32 arch, .int .i64 i, .int .i64 tot, .string (pieceT T i)] 53 (0, 0))
  bel : Below W0.heap.size W wx
  kf : KeepsFrom B W wx
section
variable {W0 W : World} {B b4 b5 b6 b7 b8 M bA Y : Nat} {arch tot : Nat} {T : ByteArray} {pre : List Nat} {i : Nat}
theorem LdSt.start (h : LdIn W0 b4 b5 b6 b7 b8 M bA arch tot T pre W) (hy : W.heap[Y]? = some (.cells #[.int .u32 arch, .int .i64 i, .int .i64 tot, .string (pieceT T i)] 53 (0, 0))) : LdSt W0 W B b4 b5 b6 b7 b8 M bA Y arch tot T pre i false false W.drew :=
  ⟨h.r4, h.r5, h.r6, h.tt, h.tx, h.mp, h.ar, hy, (Below.refl _ _).drew, ⟨Nat.le_refl _, fun _ _ _ h _ => h⟩⟩
theorem boxed_ne {w : World} {b k : Nat} {t u : TypeId} {v v' : Value} (h : Boxed w b t v) (h' : Boxed w k u v') (hne : t ≠ u) : b ≠ k := fun e => by
  have h1 : w.heap[b]? = some _ := h
  have h2 : w.heap[k]? = some _ := h'
  rw [e, h2] at h1
  simp only [Option.some.injEq, Obj.cells.injEq] at h1
  exact hne h1.2.1.symm
theorem LdSt.put7 {c7 c8 : Bool} {wx : World} (h : LdSt W0 W B b4 b5 b6 b7 b8 M bA Y arch tot T pre i c7 c8 wx) (h7 : W0.heap.size ≤ b7) : LdSt W0 W B b4 b5 b6 b7 b8 M bA Y arch tot T pre i true c8 (wx.setCell ⟨b7, 0, none⟩ (.int .i64 tot)) := by
  have hm : M ≠ b7 := fun e => by
    obtain ⟨es, clock, h1, _⟩ := h.mp
    have h2 : wx.heap[b7]? = some _ := h.tt
    rw [e, h2] at h1
    cases h1
  have hy : Y ≠ b7 := fun e => by
    have h1 := h.yb
    have h2 : wx.heap[b7]? = some _ := h.tt
    rw [e, h2] at h1
    simp at h1
  refine ⟨h.r4.other (boxed_ne h.r4 h.tt (by decide)) _, h.r5.other (boxed_ne h.r5 h.tt (by decide)) _, h.r6.other (boxed_ne h.r6 h.tt (by decide)) _, h.tt.set _, h.tx.other (boxed_ne h.tx h.tt (by decide)) _, h.mp.setCell _ _, h.ar.other (boxed_ne h.ar h.tt (by decide)) _, (Below.heap_setCell _ _ _ _ hy).trans h.yb, h.bel.setCell (p := ⟨b7, 0, none⟩) h7 _, h.kf.trans ?_⟩
  exact (KeepsOthers.setCell _ _ _).from B
theorem LdSt.put8 {c7 c8 : Bool} {wx wy : World} (h : LdSt W0 W B b4 b5 b6 b7 b8 M bA Y arch tot T pre i c7 c8 wx) (hM : W0.heap.size ≤ M) (hMB : M < B) (hm : MapIs kInt wy M (mapT T (pre ++ [i]))) (hg : wx.grownBy wy (some M)) : LdSt W0 W B b4 b5 b6 b7 b8 M bA Y arch tot T pre i c7 true wy := by
  have key : ∀ {b : Nat} {t : TypeId} {v : Value}, Boxed wx b t v → Boxed wy b t v := fun {b t v} hx => hx.kept hg (fun e => by
    obtain ⟨es, clock, h1, _⟩ := h.mp
    have h2 : wx.heap[b]? = some _ := hx
    simp only [Option.some.injEq] at e
    rw [e, h1] at h2
    cases h2)
  refine ⟨key h.r4, key h.r5, key h.r6, key h.tt, key h.tx, hm, key h.ar, (hg.block Y (Array.getElem?_eq_some_iff.1 h.yb).1 (fun e => ?_)).trans h.yb, h.bel.grown hg (by have := h.mp.lt'; omega) (fun k e => ?_), h.kf.trans (KeepsFrom.of_grownBy hg (fun j e => ?_))⟩
  · obtain ⟨es, clock, h1, _⟩ := h.mp
    have h2 := h.yb
    simp only [Option.some.injEq] at e
    rw [e, h1] at h2
    cases h2
  · simp only [Option.some.injEq] at e; omega
  · simp only [Option.some.injEq] at e; omega
theorem LdSt.fin {wx : World} (h : LdSt W0 W B b4 b5 b6 b7 b8 M bA Y arch tot T pre i true true wx) (h0 : LdIn W0 b4 b5 b6 b7 b8 M bA arch tot T pre W) : LdIn W0 b4 b5 b6 b7 b8 M bA arch tot T (pre ++ [i]) wx :=
  ⟨h.r4, h.r5, h.r6, by have := h.tt; simpa [totB] using this, h.tx, h.mp, h.ar, h0.bel.trans h.bel⟩
end
/-- The region's slots. -/
structure R7 (W0 W : World) (B b4 b5 b6 b7 b8 M bA Y : Nat) (arch tot : Nat) (T : ByteArray) (pre : List Nat) (i : Nat) (L : Nat → Bool) (v0 v1 v2 v3 v4 v5 v6 : Value) (wx : World) : Prop where
  s0 : L 0 = true → v0 = .map (some M)
  s1 : L 1 = true → v1 = .pointer (some ⟨Y, 1, none⟩)
  s2 : L 2 = true → v2 = .int .i64 i
  s3 : L 3 = true → v3 = .pointer (some ⟨Y, 2, none⟩)
  s4 : L 4 = true → v4 = .int .i64 tot
  s5 : L 5 = true → v5 = .pointer (some ⟨Y, 3, none⟩)
  s6 : L 6 = true → v6 = .string (pieceT T i)
  st : LdSt W0 W B b4 b5 b6 b7 b8 M bA Y arch tot T pre i (L 7) (L 8) wx
section
variable {W0 W : World} {B b4 b5 b6 b7 b8 M bA Y : Nat} {arch tot : Nat} {T : ByteArray} {pre : List Nat} {i : Nat} {L : Nat → Bool} {v0 v1 v2 v3 v4 v5 v6 : Value} {wx : World}
theorem R7.put0 (h : R7 W0 W B b4 b5 b6 b7 b8 M bA Y arch tot T pre i L v0 v1 v2 v3 v4 v5 v6 wx) : R7 W0 W B b4 b5 b6 b7 b8 M bA Y arch tot T pre i (fun j => L j || j == 0) (.map (some M)) v1 v2 v3 v4 v5 v6 wx :=
  ⟨fun _ => rfl, fun h' => h.s1 (by simpa using h'), fun h' => h.s2 (by simpa using h'), fun h' => h.s3 (by simpa using h'), fun h' => h.s4 (by simpa using h'), fun h' => h.s5 (by simpa using h'), fun h' => h.s6 (by simpa using h'), by simpa using h.st⟩
theorem R7.put1 (h : R7 W0 W B b4 b5 b6 b7 b8 M bA Y arch tot T pre i L v0 v1 v2 v3 v4 v5 v6 wx) : R7 W0 W B b4 b5 b6 b7 b8 M bA Y arch tot T pre i (fun j => L j || j == 1) v0 (.pointer (some ⟨Y, 1, none⟩)) v2 v3 v4 v5 v6 wx :=
  ⟨fun h' => h.s0 (by simpa using h'), fun _ => rfl, fun h' => h.s2 (by simpa using h'), fun h' => h.s3 (by simpa using h'), fun h' => h.s4 (by simpa using h'), fun h' => h.s5 (by simpa using h'), fun h' => h.s6 (by simpa using h'), by simpa using h.st⟩
theorem R7.put2 (h : R7 W0 W B b4 b5 b6 b7 b8 M bA Y arch tot T pre i L v0 v1 v2 v3 v4 v5 v6 wx) : R7 W0 W B b4 b5 b6 b7 b8 M bA Y arch tot T pre i (fun j => L j || j == 2) v0 v1 (.int .i64 i) v3 v4 v5 v6 wx :=
  ⟨fun h' => h.s0 (by simpa using h'), fun h' => h.s1 (by simpa using h'), fun _ => rfl, fun h' => h.s3 (by simpa using h'), fun h' => h.s4 (by simpa using h'), fun h' => h.s5 (by simpa using h'), fun h' => h.s6 (by simpa using h'), by simpa using h.st⟩
theorem R7.put3 (h : R7 W0 W B b4 b5 b6 b7 b8 M bA Y arch tot T pre i L v0 v1 v2 v3 v4 v5 v6 wx) : R7 W0 W B b4 b5 b6 b7 b8 M bA Y arch tot T pre i (fun j => L j || j == 3) v0 v1 v2 (.pointer (some ⟨Y, 2, none⟩)) v4 v5 v6 wx :=
  ⟨fun h' => h.s0 (by simpa using h'), fun h' => h.s1 (by simpa using h'), fun h' => h.s2 (by simpa using h'), fun _ => rfl, fun h' => h.s4 (by simpa using h'), fun h' => h.s5 (by simpa using h'), fun h' => h.s6 (by simpa using h'), by simpa using h.st⟩
theorem R7.put4 (h : R7 W0 W B b4 b5 b6 b7 b8 M bA Y arch tot T pre i L v0 v1 v2 v3 v4 v5 v6 wx) : R7 W0 W B b4 b5 b6 b7 b8 M bA Y arch tot T pre i (fun j => L j || j == 4) v0 v1 v2 v3 (.int .i64 tot) v5 v6 wx :=
  ⟨fun h' => h.s0 (by simpa using h'), fun h' => h.s1 (by simpa using h'), fun h' => h.s2 (by simpa using h'), fun h' => h.s3 (by simpa using h'), fun _ => rfl, fun h' => h.s5 (by simpa using h'), fun h' => h.s6 (by simpa using h'), by simpa using h.st⟩
theorem R7.put5 (h : R7 W0 W B b4 b5 b6 b7 b8 M bA Y arch tot T pre i L v0 v1 v2 v3 v4 v5 v6 wx) : R7 W0 W B b4 b5 b6 b7 b8 M bA Y arch tot T pre i (fun j => L j || j == 5) v0 v1 v2 v3 v4 (.pointer (some ⟨Y, 3, none⟩)) v6 wx :=
  ⟨fun h' => h.s0 (by simpa using h'), fun h' => h.s1 (by simpa using h'), fun h' => h.s2 (by simpa using h'), fun h' => h.s3 (by simpa using h'), fun h' => h.s4 (by simpa using h'), fun _ => rfl, fun h' => h.s6 (by simpa using h'), by simpa using h.st⟩
theorem R7.put6 (h : R7 W0 W B b4 b5 b6 b7 b8 M bA Y arch tot T pre i L v0 v1 v2 v3 v4 v5 v6 wx) : R7 W0 W B b4 b5 b6 b7 b8 M bA Y arch tot T pre i (fun j => L j || j == 6) v0 v1 v2 v3 v4 v5 (.string (pieceT T i)) wx :=
  ⟨fun h' => h.s0 (by simpa using h'), fun h' => h.s1 (by simpa using h'), fun h' => h.s2 (by simpa using h'), fun h' => h.s3 (by simpa using h'), fun h' => h.s4 (by simpa using h'), fun h' => h.s5 (by simpa using h'), fun _ => rfl, by simpa using h.st⟩
theorem R7.put7 (h : R7 W0 W B b4 b5 b6 b7 b8 M bA Y arch tot T pre i L v0 v1 v2 v3 v4 v5 v6 wx) (h7 : W0.heap.size ≤ b7) : R7 W0 W B b4 b5 b6 b7 b8 M bA Y arch tot T pre i (fun j => L j || j == 7) v0 v1 v2 v3 v4 v5 v6 (wx.setCell ⟨b7, 0, none⟩ (.int .i64 tot)) :=
  ⟨fun h' => h.s0 (by simpa using h'), fun h' => h.s1 (by simpa using h'), fun h' => h.s2 (by simpa using h'), fun h' => h.s3 (by simpa using h'), fun h' => h.s4 (by simpa using h'), fun h' => h.s5 (by simpa using h'), fun h' => h.s6 (by simpa using h'), by simpa using h.st.put7 h7⟩
theorem R7.put8 {wy : World} (h : R7 W0 W B b4 b5 b6 b7 b8 M bA Y arch tot T pre i L v0 v1 v2 v3 v4 v5 v6 wx) (hM : W0.heap.size ≤ M) (hMB : M < B) (hm : MapIs kInt wy M (mapT T (pre ++ [i]))) (hg : wx.grownBy wy (some M)) : R7 W0 W B b4 b5 b6 b7 b8 M bA Y arch tot T pre i (fun j => L j || j == 8) v0 v1 v2 v3 v4 v5 v6 wy :=
  ⟨fun h' => h.s0 (by simpa using h'), fun h' => h.s1 (by simpa using h'), fun h' => h.s2 (by simpa using h'), fun h' => h.s3 (by simpa using h'), fun h' => h.s4 (by simpa using h'), fun h' => h.s5 (by simpa using h'), fun h' => h.s6 (by simpa using h'), by simpa using h.st.put8 hM hMB hm hg⟩
end
theorem wpIn_store {F : Fence} {n : Nat} {κ : Type} [DecidableEq κ] {P : Program} {kt : TypeId} {K : KeyK κ P kt} {w : World} {b : Nat} {l : List (κ × Value)} {o : Oper} {a : Act} {K' : Act → World → Prop} {Q : Exit → Act → World → Prop}
    (m x v : Operand) (t : TypeId) (hop : o.op = Op.mapUpdate t m x v) {e : TypeId} (ht : P.underlying t = some (.map kt e))
    (hm : a.eval m = .map (some b)) (h : MapIs K w b l) (k : κ) (hx : a.eval x = K.kv k)
    (hK : ∀ w', MapIs K w' b (putL k (a.eval v) l) → w.grownBy w' (some b) → K' (a.put o.dst undef) w') : Oper.wpIn F n P o a w K' Q := by
  obtain ⟨w', hrun, r1, r2⟩ := h.store ht k (a.eval v)
  have hs : o.semAt F.round a.eval = execOp a.eval o := by
    cases F.round with
    | none => rfl
    | some l => exact Oper.semAt_some l _ _ (by intro c; rw [hop]; simp)
  unfold Oper.wpIn
  refine ⟨fun f hf => ?_, ?_⟩
  · simp [Oper.about, hop] at hf
  · rw [hs]
    simp [execOp, hop, hm, hx, hrun, Result.andThen]
    exact hK w' r1 r2

theorem Tryz.infoInt : (Tryz.prog.info? 3).map (fun i => (i.zero, i.size, i.bytes)) = some (some (.int .i64 0), 1, 8) := by kernel_rfl
/-- The text that the first n pieces give, where some are missing. -/
def textOf (T : ByteArray) (xs : List Nat) (n : Nat) : List UInt8 := (List.range n).flatMap fun i => if i ∈ xs then (pieceT T i).data.toList else []
theorem textOf_step (T : ByteArray) (xs : List Nat) (n : Nat) : textOf T xs (n + 1) = textOf T xs n ++ (if n ∈ xs then (pieceT T n).data.toList else []) := by
  unfold textOf
  rw [List.range_succ, List.flatMap_append]
  simp
/-- The numbers that are missing. -/
def missL (tot : Nat) (xs : List Nat) : List Nat := (List.range tot).filter fun i => decide (i ∉ xs)
theorem missL_step (n : Nat) (xs : List Nat) : missL (n + 1) xs = missL n xs ++ (if n ∈ xs then [] else [n]) := by
  unfold missL
  rw [List.range_succ, List.filter_append]
  by_cases h : n ∈ xs
  · simp [h]
  · simp [h]
theorem missL_length (n : Nat) (xs : List Nat) : (missL n xs).length ≤ n := by
  have := List.length_filter_le (fun i => decide (i ∉ xs)) (List.range n)
  simpa [missL] using this
def textTo (T : ByteArray) (n : Nat) : List UInt8 := (List.range n).flatMap fun i => (pieceT T i).data.toList
theorem textOf_all (T : ByteArray) (xs : List Nat) : ∀ n, missL n xs = [] → textOf T xs n = textTo T n
  | 0, _ => rfl
  | n + 1, h => by
    rw [missL_step, List.append_eq_nil_iff] at h
    have hn : n ∈ xs := by
      by_cases hc : n ∈ xs
      · exact hc
      · rw [if_neg hc] at h
        cases h.2
    rw [textOf_step, if_pos hn, textOf_all T xs n h.1]
    unfold textTo
    rw [List.range_succ, List.flatMap_append]
    simp
theorem textOf_length (T : ByteArray) (xs : List Nat) (hp : ∀ i, (pieceT T i).size ≤ 64) : ∀ n, (textOf T xs n).length ≤ 64 * n
  | 0 => Nat.le_refl _
  | n + 1 => by
    rw [textOf_step, List.length_append]
    have h1 := textOf_length T xs hp n
    have h2 : (if n ∈ xs then (pieceT T n).data.toList else []).length ≤ 64 := by
      split
      · have := hp n
        simpa using this
      · simp
    omega
theorem pieceT_le (T : ByteArray) (i : Nat) : (pieceT T i).size ≤ 64 := by
  unfold pieceT
  rw [ByteArray.size_extract]
  omega
def numCells (l : List Nat) : List Value := l.map fun i : Nat => Value.int .i64 (i : Int)
theorem Holds.grown {B b : Nat} {l : List UInt8} {w w' : World} (h : Holds B b l w) {base n : Nat} {v : Value} {xs : List Value} (hr : w.ownsRow base 3 1 v n xs) (hg : w.grownBy w' v.ownBlock) : Holds B b l w' := by
  have ne : ∀ {k : Nat} {cs : Array Value} {t : TypeId} {m : Nat × Nat}, w.heap[k]? = some (.cells cs t m) → t ≠ 3 → some k ≠ v.ownBlock := fun {k cs t m} hk ht e => by
    obtain ⟨-, ⟨rfl, -⟩ | ⟨g, cap, cur, rfl, -, hh, -⟩⟩ := hr
    · cases e
    · simp only [Value.ownBlock, Option.some.injEq] at e
      subst e
      rw [hh] at hk
      simp only [Option.some.injEq, Obj.cells.injEq] at hk
      exact ht hk.2.1.symm
  have key : ∀ p, Lib.BuilderAt 56 5 B b p (Lib.byteCells l) w → Lib.BuilderAt 56 5 B b p (Lib.byteCells l) w' := by
    intro p ⟨hB, u, hb, hown, hne⟩
    refine ⟨hB, u, (hg.block b (Array.getElem?_eq_some_iff.1 hb).1 (ne hb (by decide))).trans hb, ⟨hown.1, ?_⟩, hne⟩
    rcases hown.2 with h2 | ⟨g, cap, cur, hv, hgb, hh, r⟩
    · exact .inl h2
    · exact .inr ⟨g, cap, cur, hv, hgb, (hg.block g (Array.getElem?_eq_some_iff.1 hh).1 (ne hh (by decide))).trans hh, r⟩
  exact h.elim (fun x => .inl (key _ x)) (fun x => .inr (key _ x))
theorem row_others {w w' : World} {B b base n : Nat} {v : Value} {xs : List Value} {l : List UInt8} (hb : Holds B b l w) (hr : w.ownsRow base 3 1 v n xs) (hk : Lib.OthersKept 5 (some b) w w') : w'.ownsRow base 3 1 v n xs := by
  obtain ⟨h1, h2 | ⟨g, cap, cur, rfl, hg, hh, r⟩⟩ := hr
  · exact ⟨h1, .inl h2⟩
  · refine ⟨h1, .inr ⟨g, cap, cur, rfl, hg, hk g _ hh (fun e => ?_) (fun c fz e => ?_), r⟩⟩
    · simp only [Option.some.injEq] at e
      subst e
      rcases hb with ⟨_, u, hx, _⟩ | ⟨_, u, hx, _⟩ <;>
        · rw [hh] at hx
          simp at hx
    · simp at e
/-- The last loop at text i, missing m. -/
structure LmIn (W : World) (T : ByteArray) (xs : List Nat) (i m : Nat) (mv : Value) (wr : World) : Prop where
  hb : Holds W.heap.size W.heap.size (textOf T xs i) wr
  row : wr.ownsRow W.heap.size 3 1 mv (missL m xs).length (numCells (missL m xs))
  bel : Below W.heap.size W wr
  lt : W.heap.size < wr.heap.size
section
variable {W wr w' : World} {T : ByteArray} {xs : List Nat} {i m : Nat} {mv : Value}
theorem LmIn.start (W : World) (T : ByteArray) (xs : List Nat) : LmIn W T xs 0 0 (.slice none 0 0) (W.alloc (.cells #[.pointer none, .slice none 0 0] 56)) :=
  ⟨builder_fresh W, ⟨rfl, .inl ⟨rfl, rfl⟩⟩, (Below.refl _ _).alloc (Nat.le_refl _) _, by simp⟩
theorem LmIn.write (h : LmIn W T xs i m mv wr) (h1 : Holds W.heap.size W.heap.size (textOf T xs (i + 1)) w') (h2 : Below W.heap.size wr w') (h3 : Lib.OthersKept 5 (some W.heap.size) wr w') : LmIn W T xs (i + 1) m mv w' :=
  ⟨h1, row_others h.hb h.row h3, h.bel.trans h2, Nat.lt_of_lt_of_le h.lt h2.size⟩
theorem LmIn.alloc (h : LmIn W T xs i m mv wr) (o : Obj) : LmIn W T xs i m mv (wr.alloc o) :=
  ⟨h.hb.alloc o, World.ownsRow.alloc h.row o, h.bel.alloc (Nat.le_of_lt h.lt) o, by have := h.lt; simp; omega⟩
theorem LmIn.next (h : LmIn W T xs i m mv wr) (hm : m ∈ xs) : LmIn W T xs i (m + 1) mv wr := by
  refine ⟨h.hb, ?_, h.bel, h.lt⟩
  rw [missL_step, if_pos hm, List.append_nil]
  exact h.row
theorem LmIn.app {v' : Value} (h : LmIn W T xs i m mv wr) (hm : m ∉ xs) (ho : w'.ownsRow W.heap.size 3 1 v' ((missL m xs).length + 1) (numCells (missL m xs) ++ [.int .i64 (m : Int)])) (hg : wr.grownBy w' mv.ownBlock) : LmIn W T xs i (m + 1) v' w' := by
  refine ⟨h.hb.grown h.row hg, ?_, below_append h.bel (Nat.le_of_lt h.lt) h.row (Nat.le_refl _) hg, Nat.lt_of_lt_of_le h.lt hg.size⟩
  rw [missL_step, if_neg hm, List.length_append]
  simpa [numCells] using ho
end
end Go.Proofs.YtojgopbaiflfgaaGreatDoor
