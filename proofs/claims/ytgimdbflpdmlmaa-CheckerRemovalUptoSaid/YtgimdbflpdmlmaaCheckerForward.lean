/- CheckerForward: a function may not call itself or a function that is declared after it. No condition. -/
import Derived.Test.YtgimdbflpdmlmaaCkFwd
import Derived.Test.YtgimdbflpdmlmaaLaw
import Derived.Test.YtgimdbflpdmlmaaOpenSlice
import Derived.BigRegion
namespace Go.Proofs.Ytgimdbflpdmlmaa
set_option maxRecDepth 100000
open Go.RowKit Go.Shelf Go.Proofs.Ytgimdbflpdmlmaa.Ck Go.ChangeShapes Go.WideShapes Go.ChangeAt

theorem Try.infoFunc : (Try.prog.info? 36).map (fun i => (i.zero, i.size, i.bytes)) = some (some (.agg #[.string ⟨#[]⟩, .slice none 0 0, .slice none 0 0, .slice none 0 0]), 4, 88) := by kernel_rfl
/-- The cells of the first x functions. -/
def fwdCells (k i : Nat) (bv : Value) (x : Nat) : List Value := (List.range x).flatMap fun y => [Value.string (nmF k y), .slice none 0 0, .slice none 0 0, if y = i then bv else .slice none 0 0]
theorem fwdCells_succ (k i : Nat) (bv : Value) (x : Nat) : fwdCells k i bv (x + 1) = fwdCells k i bv x ++ [Value.string (nmF k x), .slice none 0 0, .slice none 0 0, if x = i then bv else .slice none 0 0] := by
  unfold fwdCells
  rw [List.range_succ, List.flatMap_append, List.flatMap_singleton]
theorem fwdCells_length (k i : Nat) (bv : Value) : ∀ x, (fwdCells k i bv x).length = x * 4
  | 0 => rfl
  | x + 1 => by rw [fwdCells_succ, List.length_append, fwdCells_length k i bv x]; simp; omega
theorem fwdCells_get (k i : Nat) (bv : Value) (y : Nat) : ∀ x, y < x → ∀ c, c < 4 → (fwdCells k i bv x)[y * 4 + c]? = [Value.string (nmF k y), .slice none 0 0, .slice none 0 0, if y = i then bv else .slice none 0 0][c]?
  | 0, h, _, _ => absurd h (Nat.not_lt_zero y)
  | x + 1, h, c, hc => by
    rw [fwdCells_succ]
    by_cases hy : y < x
    · rw [List.getElem?_append_left (by rw [fwdCells_length]; omega)]
      exact fwdCells_get k i bv y x hy c hc
    · obtain rfl : y = x := by omega
      rw [List.getElem?_append_right (by rw [fwdCells_length]; omega), fwdCells_length]
      congr 1
      omega
theorem fwdCells_other (k i : Nat) (bv bv' : Value) : ∀ x, x ≤ i → fwdCells k i bv x = fwdCells k i bv' x
  | 0, _ => rfl
  | x + 1, h => by rw [fwdCells_succ, fwdCells_succ, fwdCells_other k i bv bv' x (by omega), if_neg (by omega), if_neg (by omega)]
/-- The body of the one function that has one. -/
def BodyAt (w : World) (base : Nat) (name : ByteArray) (bv v : Value) : Prop := ∃ S E, bv = .slice (some ⟨S, 0, none⟩) 1 1 ∧ base ≤ S ∧ base ≤ E ∧ w.heap[S]? = some (.cells #[.int .i64 6, .string ⟨#[]⟩, .slice none 0 0, .slice (some ⟨E, 0, none⟩) 1 1, .slice none 0 0, .slice none 0 0] 46 (0, 0)) ∧
  w.heap[E]? = some (.cells #[.string sCall, .int .u32 0, .string name, .slice none 0 0] 42 (0, 0)) ∧ ∀ g, v.ownBlock = some g → g ≠ S ∧ g ≠ E
structure FwdSt (w wr : World) (Kb k i j x : Nat) (v : Value) : Prop where
  low : Below w.heap.size w wr
  hw : w.heap.size ≤ Kb
  kb : wr.heap[Kb]? = some (.cells #[.int .i64 k] 3 (0, 0))
  pb : wr.heap[Kb + 1]? = some (.cells #[.slice none 0 0, .slice none 0 0, v] 26 (0, 0))
  row : ∃ bv, wr.ownsRow (Kb + 2) 36 4 v x (fwdCells k i bv x) ∧ (i < x → BodyAt wr (Kb + 2) (nmF k j) bv v)
theorem FwdSt.below {w wr w' : World} {Kb k i j x : Nat} {v : Value} (h : FwdSt w wr Kb k i j x v) (hb : Below wr.heap.size wr w') : FwdSt w w' Kb k i j x v := by
  obtain ⟨bv, h1, h2⟩ := h.row
  refine ⟨h.low.trans (hb.mono h.low.size), h.hw, (hb.block Kb (Array.getElem?_eq_some_iff.1 h.kb).1).trans h.kb, (hb.block (Kb + 1) (Array.getElem?_eq_some_iff.1 h.pb).1).trans h.pb, bv, World.ownsRow.kept h1 (grown_none hb) (by cases hq : Value.ownBlock v <;> simp), fun hi => ?_⟩
  obtain ⟨S, E, e1, e2, e3, e4, e5, e6⟩ := h2 hi
  exact ⟨S, E, e1, e2, e3, (hb.block S (Array.getElem?_eq_some_iff.1 e4).1).trans e4, (hb.block E (Array.getElem?_eq_some_iff.1 e5).1).trans e5, e6⟩
/-- Behind the last round the program lies there. -/
theorem FwdSt.prog {w wr : World} {Kb k i j : Nat} {v : Value} (h : FwdSt w wr Kb k i j k v) (hi : i < k) : PrAt wr (.slice none 0 0) (.slice none 0 0) v (fwdP k i j) := by
  obtain ⟨bv, ⟨hl, hr⟩, h2⟩ := h.row
  obtain ⟨S, E, rfl, e2, e3, e4, e5, e6⟩ := h2 hi
  refine ⟨Strs.nil _, ArsAt.nil _, ?_⟩
  have hlen : ((List.range k).map (fwdF k i j)).length = k := by simp
  rcases hr with ⟨rfl, h0⟩ | ⟨g, cap, cur, rfl, hb, hh, hc1, hc2, hc3, hc4⟩
  · omega
  · refine ⟨some ⟨g, 0, none⟩, cap, by rw [show (fwdP k i j).funcs.length = k from hlen], by rw [show (fwdP k i j).funcs.length = k from hlen]; exact hc1, hc2, .inr ⟨g, 0, rfl, (Array.getElem?_eq_some_iff.1 hh).1, fun y f hf => ?_⟩⟩
    have hy : y < k := by have := (List.getElem?_eq_some_iff.1 hf).1; rwa [show (fwdP k i j).funcs.length = k from hlen] at this
    have hfe : f = fwdF k i j y := by
      have : (fwdP k i j).funcs[y]? = some (fwdF k i j y) := by
        show ((List.range k).map (fwdF k i j))[y]? = _
        rw [List.getElem?_map, List.getElem?_range hy]; rfl
      rw [this] at hf
      exact (Option.some.inj hf).symm
    subst hfe
    have key : ∀ c, c < 4 → wr.cell? ⟨g, 0 + y * 4 + c, none⟩ = [Value.string (nmF k y), .slice none 0 0, .slice none 0 0, if y = i then .slice (some ⟨S, 0, none⟩) 1 1 else .slice none 0 0][c]? := fun c hc => by
      rw [← fwdCells_get k i _ y k hy c hc, ← hc4]
      simp only [World.cell?, hh, Nat.zero_add]
      rw [List.getElem?_take_of_lt (by omega)]
      simp
    have k0 := key 0 (by omega)
    have k1 := key 1 (by omega)
    have k2 := key 2 (by omega)
    have k3 := key 3 (by omega)
    simp only [List.getElem?_cons_zero, List.getElem?_cons_succ] at k0 k1 k2 k3
    refine ⟨k0, _, _, _, k1, k2, k3, Strs.nil _, Strs.nil _, ?_⟩
    show ∃ n, StsAt wr n _ (if y = i then [callS (nmF k j)] else [])
    by_cases hyi : y = i
    · rw [if_pos hyi, if_pos hyi]
      exact ⟨1, StsAt.one (s := callS (nmF k j)) e4 ⟨0, ExsAt.nil _ _⟩ ⟨1, ExsAt.one (e := .mk sCall 0 (nmF k j) []) e5 (ExsAt.nil _ 0)⟩ (StsAt.nil _ _) (StsAt.nil _ _)⟩
    · rw [if_neg hyi, if_neg hyi]
      exact ⟨0, StsAt.nil _ _⟩
theorem fwd_step {w wr w9 : World} {Kb k i j x : Nat} {v v' bv : Value} {cs : Array Value} {T : TypeId} (hlow : Below w.heap.size w wr) (hw : w.heap.size ≤ Kb) (hkb : wr.heap[Kb]? = some (.cells #[.int .i64 k] 3 (0, 0)))
    (hpb : wr.heap[Kb + 1]? = some (.cells #[.slice none 0 0, .slice none 0 0, v] 26 (0, 0))) (hrow : wr.ownsRow (Kb + 2) 36 4 v x (fwdCells k i bv x)) (hbody : i < x + 1 → BodyAt wr (Kb + 2) (nmF k j) bv v)
    (h9 : w9.ownsRow (Kb + 2) 36 4 v' (x + 1) (fwdCells k i bv x ++ [Value.string (nmF k x), .slice none 0 0, .slice none 0 0, if x = i then bv else .slice none 0 0])) (hg : (wr.alloc (.cells cs T)).grownBy w9 v.ownBlock)
    (hv : v'.ownBlock = v.ownBlock ∨ v'.ownBlock = some (wr.alloc (.cells cs T)).heap.size) : FwdSt w (w9.setCell ⟨Kb + 1, 2, none⟩ v') Kb k i j (x + 1) v' := by
  have hb : Below wr.heap.size wr (wr.alloc (.cells cs T)) := (Below.refl _ _).alloc (Nat.le_refl _) _
  have hsz : (wr.alloc (.cells cs T)).heap.size = wr.heap.size + 1 := World.size_alloc ..
  have hlt := World.ownsRow.lt hrow
  have keep : ∀ n, n < wr.heap.size → (∀ g, v.ownBlock = some g → n ≠ g) → w9.heap[n]? = wr.heap[n]? := fun n hn hne => (hg.block n (by omega) (fun e => hne n e.symm rfl)).trans (hb.block n hn)
  have hKl := (Array.getElem?_eq_some_iff.1 hkb).1
  have hPl := (Array.getElem?_eq_some_iff.1 hpb).1
  have k9 := (keep Kb hKl (fun g hg' => by have := (hlt g hg').1; omega)).trans hkb
  have p9 := (keep (Kb + 1) hPl (fun g hg' => by have := (hlt g hg').1; omega)).trans hpb
  have low9 : Below w.heap.size w w9 := (hlow.trans (hb.mono hlow.size)).grown hg (by have := hlow.size; omega) (fun g hg' => by have := (hlt g hg').1; omega)
  have gs := grown_setCell w9 ⟨Kb + 1, 2, none⟩ v'
  refine ⟨low9.grown gs low9.size (fun g hg' => by cases hg'; show w.heap.size ≤ Kb + 1; omega), hw, (Below.heap_setCell w9 ⟨Kb + 1, 2, none⟩ v' Kb (by show Kb ≠ Kb + 1; omega)).trans k9, heap_setCell_same w9 (Kb + 1) 2 _ _ v' p9, bv, ?_, fun hi => ?_⟩
  · rw [fwdCells_succ]
    refine World.ownsRow.kept h9 gs (.inr (fun e => ?_))
    have := (World.ownsRow.lt h9 (Kb + 1) e).1
    omega
  · obtain ⟨S, E, e1, e2, e3, e4, e5, e6⟩ := hbody hi
    have hSl := (Array.getElem?_eq_some_iff.1 e4).1
    have hEl := (Array.getElem?_eq_some_iff.1 e5).1
    refine ⟨S, E, e1, e2, e3, (Below.heap_setCell w9 ⟨Kb + 1, 2, none⟩ v' S (by show S ≠ Kb + 1; omega)).trans ((keep S hSl (fun g hg' h => (e6 g hg').1 h.symm)).trans e4), (Below.heap_setCell w9 ⟨Kb + 1, 2, none⟩ v' E (by show E ≠ Kb + 1; omega)).trans ((keep E hEl (fun g hg' h => (e6 g hg').2 h.symm)).trans e5), fun g hg' => ?_⟩
    rcases hv with h | h
    · rw [h] at hg'; exact e6 g hg'
    · rw [h] at hg'
      cases hg'
      exact ⟨by rw [hsz]; omega, by rw [hsz]; omega⟩
theorem fwd_body {w wn W : World} {Kb k i j Z : Nat} {v bv : Value} {nmx nm : ByteArray} (h : FwdSt w wn Kb k i j i v) (hr : wn.ownsRow (Kb + 2) 36 4 v i (fwdCells k i bv i)) (hZ : wn.heap[Z]? = some (.cells #[.string nmx, .slice none 0 0, .slice none 0 0, .slice none 0 0] 36 (0, 0)))
    (hKZ : Kb + 2 ≤ Z) (hv : ∀ g, v.ownBlock = some g → g ≠ Z)
    (hW : W = (((wn.setCell ⟨Z, 3, none⟩ (.slice (some ⟨wn.heap.size + 1, 0, none⟩) 1 1)).alloc (.cells #[.string ⟨#[99, 97, 108, 108]⟩, .int .u32 0, .string nm, .slice none 0 0] 42)).alloc (.cells #[.int .i64 6, .string ⟨#[]⟩, .slice none 0 0, .slice (some ⟨wn.heap.size, 0, none⟩) 1 1, .slice none 0 0, .slice none 0 0] 46))) :
    Below w.heap.size w W ∧ W.heap[Kb]? = some (.cells #[.int .i64 k] 3 (0, 0)) ∧ W.heap[Kb + 1]? = some (.cells #[.slice none 0 0, .slice none 0 0, v] 26 (0, 0)) ∧
      W.ownsRow (Kb + 2) 36 4 v i (fwdCells k i (.slice (some ⟨wn.heap.size + 1, 0, none⟩) 1 1) i) ∧ BodyAt W (Kb + 2) nm (.slice (some ⟨wn.heap.size + 1, 0, none⟩) 1 1) v ∧
      W.heap[Z]? = some (.cells #[.string nmx, .slice none 0 0, .slice none 0 0, .slice (some ⟨wn.heap.size + 1, 0, none⟩) 1 1] 36 (0, 0)) := by
  have e1 := heap_setCell_same wn Z 3 _ _ (.slice (some ⟨wn.heap.size + 1, 0, none⟩) 1 1) hZ
  have g1 := grown_setCell wn ⟨Z, 3, none⟩ (.slice (some ⟨wn.heap.size + 1, 0, none⟩) 1 1)
  have s1 : (wn.setCell ⟨Z, 3, none⟩ (.slice (some ⟨wn.heap.size + 1, 0, none⟩) 1 1)).heap.size = wn.heap.size := by simp [World.setCell]
  generalize (wn.setCell ⟨Z, 3, none⟩ (.slice (some ⟨wn.heap.size + 1, 0, none⟩) 1 1)) = w1 at *
  have b2 : Below w1.heap.size w1 (w1.alloc (.cells #[.string ⟨#[99, 97, 108, 108]⟩, .int .u32 0, .string nm, .slice none 0 0] 42)) := (Below.refl _ _).alloc (Nat.le_refl _) _
  have e2 := heap_alloc_new w1 (.cells #[.string ⟨#[99, 97, 108, 108]⟩, .int .u32 0, .string nm, .slice none 0 0] 42)
  have s2 : (w1.alloc (.cells #[.string ⟨#[99, 97, 108, 108]⟩, .int .u32 0, .string nm, .slice none 0 0] 42)).heap.size = wn.heap.size + 1 := by rw [World.size_alloc, s1]
  rw [s1] at e2
  generalize (w1.alloc (.cells #[.string ⟨#[99, 97, 108, 108]⟩, .int .u32 0, .string nm, .slice none 0 0] 42)) = w2 at *
  have b3 : Below w2.heap.size w2 W := by rw [hW]; exact (Below.refl _ _).alloc (Nat.le_refl _) _
  have e3 : W.heap[wn.heap.size + 1]? = some (.cells #[.int .i64 6, .string ⟨#[]⟩, .slice none 0 0, .slice (some ⟨wn.heap.size, 0, none⟩) 1 1, .slice none 0 0, .slice none 0 0] 46 (0, 0)) := by
    rw [hW, ← s2]; exact heap_alloc_new w2 _
  have e2' := (b3.block wn.heap.size (by omega)).trans e2
  have hb : Below w1.heap.size w1 W := b2.trans (b3.mono b2.size)
  have hZl := (Array.getElem?_eq_some_iff.1 hZ).1
  have hKl := (Array.getElem?_eq_some_iff.1 h.kb).1
  have hPl := (Array.getElem?_eq_some_iff.1 h.pb).1
  have hne : ∀ {a b : Nat}, a ≠ b → some a ≠ some b := fun h e => h (Option.some.inj e)
  have hlow := h.low.grown g1 h.low.size (fun g hg => by cases hg; have := h.hw; show w.heap.size ≤ Z; omega)
  refine ⟨hlow.trans (hb.mono hlow.size), (hb.block Kb (by omega)).trans ((g1.block Kb hKl (hne (by show Kb ≠ Z; omega))).trans h.kb), (hb.block (Kb + 1) (by omega)).trans ((g1.block (Kb + 1) hPl (hne (by show Kb + 1 ≠ Z; omega))).trans h.pb), ?_,
    ⟨wn.heap.size + 1, wn.heap.size, rfl, by omega, by omega, e3, e2', fun g hg => ?_⟩, (hb.block Z (by omega)).trans e1⟩
  · rw [fwdCells_other k i _ bv i (Nat.le_refl _)]
    refine World.ownsRow.kept (World.ownsRow.kept hr g1 ?_) (grown_none hb) ?_
    · cases hq : v.ownBlock with
      | none => exact .inl rfl
      | some g => exact .inr (hne (hv g hq))
    · cases hq : v.ownBlock with
      | none => exact .inl rfl
      | some g => exact .inr (by simp)
  · have := (World.ownsRow.lt hr g hg).2
    omega
set_option maxHeartbeats 8000000 in
theorem checkerForward_any (n f t : Nat) (w : World) (hn : n ≤ 255) (hf : f ≤ 255) (ht : t ≤ 255) :
    Calls Try.prog 6 #[.int .u8 n, .int .u8 f, .int .u8 t] w fun e w' => e = .returned (.bool true) ∧ Below w.heap.size w w' := by
  have hmf : ∀ (fn : Fn) (first cap : Array Value) (w : World), (Instr.makeFunc fn first cap).run Try.prog w = .ok (.func fn first cap) w := fun _ _ _ _ => rfl
  go_enter Try.func6, Try.ntmps6
  go_wp2_with fail
  refine (alive_any w).mono ?_
  rintro _ w1 ⟨rfl, hb1⟩
  have HB1 := Keep.mk hb1
  clear hb1
  have hA : (n : Int).tmod 8 = ((n % 8 : Nat) : Int) := rfl
  have hk8 : n % 8 < 8 := Nat.mod_lt _ (by omega)
  have hK : (2 : Int) + (n : Int) % 8 = ((2 + n % 8 : Nat) : Int) := by omega
  have hK2 : (2 : Int) + (n : Int).tmod 8 = ((2 + n % 8 : Nat) : Int) := by rw [hA]; omega
  have hk2 : 2 ≤ 2 + n % 8 := by omega
  have hk9 : 2 + n % 8 < 10 := by omega
  generalize 2 + n % 8 = k at *
  clear hA hk8
  go_upto_region 6 with (fail)
  obtain ⟨Kb, hKb⟩ : ∃ Kb, Kb = w1.heap.size := ⟨_, rfl⟩
  have ha1 : Below w1.heap.size w1 (w1.alloc (.cells #[.int .i64 (k : Int)] 3)) := (Below.refl _ _).alloc (Nat.le_refl _) _
  have he1 := heap_alloc_new w1 (.cells #[.int .i64 (k : Int)] 3)
  have hs1 : (w1.alloc (.cells #[.int .i64 (k : Int)] 3)).heap.size = Kb + 1 := by rw [World.size_alloc, hKb]
  have hw1 := HB1.out.trans (ha1.mono HB1.out.size)
  have hwK : w.heap.size ≤ Kb := by rw [hKb]; exact HB1.out.size
  rw [← hKb] at he1 ⊢
  generalize (w1.alloc (.cells #[.int .i64 (k : Int)] 3)) = w4 at *
  have ha2 : Below w4.heap.size w4 (w4.alloc (.cells #[.slice none 0 0, .slice none 0 0, .slice none 0 0] 26)) := (Below.refl _ _).alloc (Nat.le_refl _) _
  have he2 := heap_alloc_new w4 (.cells #[.slice none 0 0, .slice none 0 0, .slice none 0 0] 26)
  rw [hs1] at he2
  have he1' := (ha2.block Kb (by omega)).trans he1
  have HS5 : Keep (∀ i j, FwdSt w (w4.alloc (.cells #[.slice none 0 0, .slice none 0 0, .slice none 0 0] 26)) Kb k i j 0 (.slice none 0 0)) := ⟨fun i j => ⟨hw1.trans (ha2.mono hw1.size), hwK, he1', he2, .slice none 0 0, World.ownsRow_nil _ _ _ _, fun h => absurd h (Nat.not_lt_zero _)⟩⟩
  clear ha1 he1 hs1 hw1 ha2 he2 he1' HB1 hKb hK hK2
  generalize (w4.alloc (.cells #[.slice none 0 0, .slice none 0 0, .slice none 0 0] 26)) = w5 at *
  have hi' : f % k < k := Nat.mod_lt _ (by omega)
  have hj' : t % k < k := Nat.mod_lt _ (by omega)
  have hI : (f : Int).tmod (k : Int) = ((f % k : Nat) : Int) := rfl
  have hJ : (t : Int).tmod (k : Int) = ((t % k : Nat) : Int) := rfl
  have hI2 : (f : Int) % (k : Int) = ((f % k : Nat) : Int) := rfl
  have hJ2 : (t : Int) % (k : Int) = ((t % k : Nat) : Int) := rfl
  have hk0 : ¬ (k : Int) = 0 := by omega
  generalize f % k = i at *
  generalize t % k = j at *
  have HSi := Keep.mk (HS5.out i j)
  have c0 : w5.cell? ⟨Kb, 0, none⟩ = some (.int .i64 k) := by simp [World.cell?, HSi.out.kb]
  have cl : Kb < w5.heap.size := (Array.getElem?_eq_some_iff.1 HSi.out.kb).1
  clear HS5
  have m1 : (0 : Int) ≤ (i : Int) := by omega
  have m2 : (0 : Int) ≤ (j : Int) := by omega
  go_region
  have HS6 := Keep.mk (HSi.out.below (Below.refl w5.heap.size w5).drew)
  clear HSi c0 cl
  generalize w5.drew = w6 at *
  have c0 : w6.cell? ⟨Kb, 0, none⟩ = some (.int .i64 k) := by simp [World.cell?, HS6.out.kb]
  have cl : Kb < w6.heap.size := (Array.getElem?_eq_some_iff.1 HS6.out.kb).1
  obtain ⟨i0, hi, hz0, hz1, hz2⟩ := info_parts Try.infoFunc
  go_wp2_with fail
  clear c0 cl
  go_loopw [32] (fun s wr => ∃ (x : Nat) (v : Value), x ≤ k ∧ s = .int .i64 x ∧ Keep (FwdSt w wr Kb k i j x v)) (fun s _ => k - (intOf s).toNat)
  case atStart => exact ⟨0, _, Nat.zero_le _, rfl, HS6⟩
  case round =>
    obtain ⟨x, v, hx, rfl, HSr⟩ := hrel
    clear HS6
    have c0 : wr.cell? ⟨Kb, 0, none⟩ = some (.int .i64 k) := by simp [World.cell?, HSr.out.kb]
    have cl : Kb < wr.heap.size := (Array.getElem?_eq_some_iff.1 HSr.out.kb).1
    by_cases hlt : x < k
    · have k1 : (x : Int) < (k : Int) := by omega
      have HNM := Keep.mk (name_any c0 hk9 hlt)
      go_wp2_with fail
      refine HNM.out.mono ?_
      rintro _ w7 ⟨rfl, hb7⟩
      have HS7 := Keep.mk (HSr.out.below hb7)
      clear hb7 HSr c0 cl HNM
      go_upto_region 11 with (fail)
      have hbz : Below w7.heap.size w7 (w7.alloc (.cells #[.string (nmF k x), .slice none 0 0, .slice none 0 0, .slice none 0 0] 36)) := (Below.refl _ _).alloc (Nat.le_refl _) _
      have hez := heap_alloc_new w7 (.cells #[.string (nmF k x), .slice none 0 0, .slice none 0 0, .slice none 0 0] 36)
      have HS8 := Keep.mk (HS7.out.below hbz)
      have hKZ : Kb + 2 ≤ w7.heap.size := by have := (Array.getElem?_eq_some_iff.1 HS7.out.pb).1; omega
      obtain ⟨Z, hZ⟩ : ∃ Z, Z = w7.heap.size := ⟨_, rfl⟩
      rw [← hZ] at hez hKZ ⊢
      have HZ8 := Keep.mk hez
      have HZR : Keep (∀ g, v.ownBlock = some g → g ≠ Z) := ⟨fun g hg => by
        obtain ⟨bv, hr, _⟩ := HS7.out.row
        have := (World.ownsRow.lt hr g hg).2
        omega⟩
      clear hbz hez HS7 hZ
      generalize (w7.alloc (.cells #[.string (nmF k x), .slice none 0 0, .slice none 0 0, .slice none 0 0] 36)) = w8 at *
      obtain ⟨bv, hrow, hbody⟩ := HS8.out.row
      obtain ⟨va, vc, rfl⟩ := ownsRow_slice hrow
      have HROW := Keep.mk hrow
      have HBODY := Keep.mk hbody
      clear hrow hbody
      by_cases hxi : x = i
      · subst hxi
        have c0 : w8.cell? ⟨Kb, 0, none⟩ = some (.int .i64 k) := by simp [World.cell?, HS8.out.kb]
        have HNJ := Keep.mk (name_any c0 hk9 hj')
        have cl : Kb < w8.heap.size := (Array.getElem?_eq_some_iff.1 HS8.out.kb).1
        go_wp2_with fail
        refine HNJ.out.mono ?_
        rintro _ wn ⟨rfl, hbn⟩
        have HSn := Keep.mk (HS8.out.below hbn)
        have hrn : wn.ownsRow (Kb + 2) 36 4 (.slice va x vc) x (fwdCells k x bv x) := World.ownsRow.kept HROW.out (grown_none hbn) (by cases hq : Value.ownBlock (.slice va x vc) <;> simp)
        have HRn := Keep.mk hrn
        have HZn := Keep.mk ((hbn.block Z (Array.getElem?_eq_some_iff.1 HZ8.out).1).trans HZ8.out)
        clear hbn hrn HROW HBODY HS8 HZ8 c0 cl HNJ
        generalize hnm : nmF k j = nm at *
        have HNM := Keep.mk hnm
        clear hnm
        have z0 : wn.cell? ⟨Z, 0, none⟩ = some (.string (nmF k x)) := by simp [World.cell?, HZn.out]
        have z1 : wn.cell? ⟨Z, 1, none⟩ = some (.slice none 0 0) := by simp [World.cell?, HZn.out]
        have z2 : wn.cell? ⟨Z, 2, none⟩ = some (.slice none 0 0) := by simp [World.cell?, HZn.out]
        have z3 : wn.cell? ⟨Z, 3, none⟩ = some (.slice none 0 0) := by simp [World.cell?, HZn.out]
        have zf : wn.frozen? ⟨Z, 3, none⟩ = false := by simp [World.frozen?, HZn.out]
        have zl : Z < wn.heap.size := (Array.getElem?_eq_some_iff.1 HZn.out).1
        go_upto_region 13 with (fail)
        obtain ⟨W, hW⟩ : ∃ W, W = (((wn.setCell ⟨Z, 3, none⟩ (.slice (some ⟨wn.heap.size + 1, 0, none⟩) 1 1)).alloc (.cells #[.string ⟨#[99, 97, 108, 108]⟩, .int .u32 0, .string nm, .slice none 0 0] 42)).alloc (.cells #[.int .i64 6, .string ⟨#[]⟩, .slice none 0 0, .slice (some ⟨wn.heap.size, 0, none⟩) 1 1, .slice none 0 0, .slice none 0 0] 46)) := ⟨_, rfl⟩
        obtain ⟨y1, y2, y3, y4, y5, y6⟩ := fwd_body HSn.out HRn.out HZn.out hKZ HZR.out hW
        rw [← hW]
        have Y := Keep.mk (And.intro y1 (And.intro y2 (And.intro y3 (And.intro y4 y5))))
        have HSw := Keep.mk HSn.out.hw
        have Y6 := Keep.mk y6
        clear hW y1 y2 y3 y4 y5 z0 z1 z2 z3 zf zl HSn HRn HZn HZR
        generalize (⟨wn.heap.size + 1, 0, none⟩ : Addr) = sa at *
        have z0 : W.cell? ⟨Z, 0, none⟩ = some (.string (nmF k x)) := by simp [World.cell?, y6]
        have z1 : W.cell? ⟨Z, 1, none⟩ = some (.slice none 0 0) := by simp [World.cell?, y6]
        have z2 : W.cell? ⟨Z, 2, none⟩ = some (.slice none 0 0) := by simp [World.cell?, y6]
        have z3 : W.cell? ⟨Z, 3, none⟩ = some (.slice (some sa) 1 1) := by simp [World.cell?, y6]
        have zl : Z < W.heap.size := (Array.getElem?_eq_some_iff.1 y6).1
        have p2 : W.cell? ⟨Kb + 1, 2, none⟩ = some (.slice va x vc) := by simp [World.cell?, Y.out.2.2.1]
        have pl : Kb + 1 < W.heap.size := (Array.getElem?_eq_some_iff.1 Y.out.2.2.1).1
        have HSTEP : Keep (∀ (v' : Value) (w9 : World), w9.ownsRow (Kb + 2) 36 4 v' (x + 1) (fwdCells k x (.slice (some sa) 1 1) x ++ [Value.string (nmF k x), .slice none 0 0, .slice none 0 0, .slice (some sa) 1 1]) → (W.alloc (.cells #[.string (nmF k x), .slice none 0 0, .slice none 0 0, .slice (some sa) 1 1] 36)).grownBy w9 (Value.slice va x vc).ownBlock →
            (v'.ownBlock = (Value.slice va x vc).ownBlock ∨ v'.ownBlock = some (W.alloc (.cells #[.string (nmF k x), .slice none 0 0, .slice none 0 0, .slice (some sa) 1 1] 36)).heap.size) → FwdSt w (w9.setCell ⟨Kb + 1, 2, none⟩ v') Kb k x j (x + 1) v' ∧ w9.cell? ⟨Kb + 1, 2, none⟩ = some (.slice va x vc) ∧ w9.frozen? ⟨Kb + 1, 2, none⟩ = false ∧ Kb + 1 < w9.heap.size) := ⟨fun v' w9 h1 h2 h3 => by
          have hs := fwd_step Y.out.1 HSw.out Y.out.2.1 Y.out.2.2.1 Y.out.2.2.2.1 (fun _ => by rw [HNM.out]; exact Y.out.2.2.2.2) (j := j) (by rw [if_pos rfl]; exact h1) h2 h3
          have hb : Below W.heap.size W (W.alloc (.cells #[.string (nmF k x), .slice none 0 0, .slice none 0 0, .slice (some sa) 1 1] 36)) := (Below.refl _ _).alloc (Nat.le_refl _) _
          have hp := (h2.block (Kb + 1) (by have := hb.size; omega) (fun e => by have := (World.ownsRow.lt Y.out.2.2.2.1 (Kb + 1) e.symm).1; omega)).trans ((hb.block (Kb + 1) pl).trans Y.out.2.2.1)
          exact ⟨hs, by simp [World.cell?, hp], by simp [World.frozen?, hp], (Array.getElem?_eq_some_iff.1 hp).1⟩⟩
        clear y6
        have hbase : Kb + 2 ≤ W.heap.size := by omega
        have hxk : x ≤ 9 := by omega
        go_wp2_with (at_builtin; go_must (refine wpList_append_slc rfl _ _ 24 rfl (Kb + 2) 36 i0 (.agg #[.string ⟨#[]⟩, .slice none 0 0, .slice none 0 0, .slice none 0 0]) 4 88 Try.underlying24 hi hz0 hz1 hz2 rfl (by decide) _ x (fwdCells k x (.slice (some sa) 1 1) x) rfl (World.ownsRow.alloc Y.out.2.2.2.1 _) _ 1 [.string (nmF k x), .slice none 0 0, .slice none 0 0, .slice (some sa) 1 1] rfl (Slc.made (t := 36) [.string (nmF k x), .slice none 0 0, .slice none 0 0, .slice (some sa) 1 1] (by decide) rfl) (by simp [Value.oneCell']) (by unfold maxLen; omega) (by omega) (by simp; omega) ?_); intro v9 w9 hown9 hg9 hv9; obtain ⟨av9, cv9, rfl⟩ := ownsRow_slice hown9; have H9 := HSTEP.out _ w9 hown9 hg9 hv9; have HF9 := Keep.mk H9.1; have n0 := H9.2.1; have n1 := H9.2.2.1; have n2 := H9.2.2.2; clear H9 hown9 hg9 hv9)
        go_roundw
        case rel => exact ⟨x + 1, _, by omega, by go_num, HF9⟩
        case measure => simp [intOf]; omega
      · have q1 : ((x : Int) == (i : Int)) = false := by rw [beq_eq_false_iff_ne]; omega
        have z0 : w8.cell? ⟨Z, 0, none⟩ = some (.string (nmF k x)) := by simp [World.cell?, HZ8.out]
        have z1 : w8.cell? ⟨Z, 1, none⟩ = some (.slice none 0 0) := by simp [World.cell?, HZ8.out]
        have z2 : w8.cell? ⟨Z, 2, none⟩ = some (.slice none 0 0) := by simp [World.cell?, HZ8.out]
        have z3 : w8.cell? ⟨Z, 3, none⟩ = some (.slice none 0 0) := by simp [World.cell?, HZ8.out]
        have zl : Z < w8.heap.size := (Array.getElem?_eq_some_iff.1 HZ8.out).1
        have p2 : w8.cell? ⟨Kb + 1, 2, none⟩ = some (.slice va x vc) := by simp [World.cell?, HS8.out.pb]
        have pl : Kb + 1 < w8.heap.size := (Array.getElem?_eq_some_iff.1 HS8.out.pb).1
        have HSTEP : Keep (∀ (v' : Value) (w9 : World), w9.ownsRow (Kb + 2) 36 4 v' (x + 1) (fwdCells k i bv x ++ [Value.string (nmF k x), .slice none 0 0, .slice none 0 0, .slice none 0 0]) → (w8.alloc (.cells #[.string (nmF k x), .slice none 0 0, .slice none 0 0, .slice none 0 0] 36)).grownBy w9 (Value.slice va x vc).ownBlock →
            (v'.ownBlock = (Value.slice va x vc).ownBlock ∨ v'.ownBlock = some (w8.alloc (.cells #[.string (nmF k x), .slice none 0 0, .slice none 0 0, .slice none 0 0] 36)).heap.size) → FwdSt w (w9.setCell ⟨Kb + 1, 2, none⟩ v') Kb k i j (x + 1) v' ∧ w9.cell? ⟨Kb + 1, 2, none⟩ = some (.slice va x vc) ∧ w9.frozen? ⟨Kb + 1, 2, none⟩ = false ∧ Kb + 1 < w9.heap.size) := ⟨fun v' w9 h1 h2 h3 => by
          have hs := fwd_step HS8.out.low HS8.out.hw HS8.out.kb HS8.out.pb HROW.out (fun h => HBODY.out (by omega)) (j := j) (by rw [if_neg hxi]; exact h1) h2 h3
          have hb : Below w8.heap.size w8 (w8.alloc (.cells #[.string (nmF k x), .slice none 0 0, .slice none 0 0, .slice none 0 0] 36)) := (Below.refl _ _).alloc (Nat.le_refl _) _
          have hp := (h2.block (Kb + 1) (by have := hb.size; omega) (fun e => by have := (World.ownsRow.lt HROW.out (Kb + 1) e.symm).1; omega)).trans ((hb.block (Kb + 1) pl).trans HS8.out.pb)
          exact ⟨hs, by simp [World.cell?, hp], by simp [World.frozen?, hp], (Array.getElem?_eq_some_iff.1 hp).1⟩⟩
        clear hxi
        have hbase : Kb + 2 ≤ w8.heap.size := by omega
        have hxk : x ≤ 9 := by omega
        go_wp2_with (at_builtin; go_must (refine wpList_append_slc rfl _ _ 24 rfl (Kb + 2) 36 i0 (.agg #[.string ⟨#[]⟩, .slice none 0 0, .slice none 0 0, .slice none 0 0]) 4 88 Try.underlying24 hi hz0 hz1 hz2 rfl (by decide) _ x (fwdCells k i bv x) rfl (World.ownsRow.alloc HROW.out _) _ 1 [.string (nmF k x), .slice none 0 0, .slice none 0 0, .slice none 0 0] rfl (Slc.made (t := 36) [.string (nmF k x), .slice none 0 0, .slice none 0 0, .slice none 0 0] (by decide) rfl) (by simp [Value.oneCell']) (by unfold maxLen; omega) (by omega) (by simp; omega) ?_); intro v9 w9 hown9 hg9 hv9; obtain ⟨av9, cv9, rfl⟩ := ownsRow_slice hown9; have H9 := HSTEP.out _ w9 hown9 hg9 hv9; have HF9 := Keep.mk H9.1; have n0 := H9.2.1; have n1 := H9.2.2.1; have n2 := H9.2.2.2; clear H9 hown9 hg9 hv9)
        go_roundw
        case rel => exact ⟨x + 1, _, by omega, by go_num, HF9⟩
        case measure => simp [intOf]; omega
    · have k1 : ¬ (x : Int) < (k : Int) := by omega
      obtain rfl : x = k := by omega
      obtain ⟨bv, hrow, _⟩ := HSr.out.row
      obtain ⟨va, vc, rfl⟩ := ownsRow_slice hrow
      clear hrow
      have HP := Keep.mk (HSr.out.prog hi')
      have HC := Keep.mk (check_any HP.out (fits_fwd hk9 hi' hj'))
      rw [check_fwd x hk9 hk2 i hi' j hj'] at HC
      have p0 : wr.cell? ⟨Kb + 1, 0, none⟩ = some (.slice none 0 0) := by simp [World.cell?, HSr.out.pb]
      have p1 : wr.cell? ⟨Kb + 1, 1, none⟩ = some (.slice none 0 0) := by simp [World.cell?, HSr.out.pb]
      have p2 : wr.cell? ⟨Kb + 1, 2, none⟩ = some (.slice va x vc) := by simp [World.cell?, HSr.out.pb]
      have pl : Kb + 1 < wr.heap.size := (Array.getElem?_eq_some_iff.1 HSr.out.pb).1
      by_cases hji : j < i
      · have q1 : (j : Int) < (i : Int) := by omega
        rw [if_pos hji] at HC
        clear hji
        go_wp2_with fail
        refine HC.out.mono ?_
        rintro _ w8 ⟨rfl, hb8⟩
        have HB8 := Keep.mk (HSr.out.low.trans (hb8.mono HSr.out.low.size))
        clear hb8 p0 p1 p2 pl c0 cl
        go_wp2_with fail
        go_ret
        exact ⟨rfl, HB8.out⟩
      · have q1 : ¬ (j : Int) < (i : Int) := by omega
        rw [if_neg hji] at HC
        clear hji
        go_wp2_with fail
        refine HC.out.mono ?_
        rintro _ w8 ⟨rfl, hb8⟩
        have HB8 := Keep.mk (HSr.out.low.trans (hb8.mono HSr.out.low.size))
        have hk8 := (hb8.block Kb (Array.getElem?_eq_some_iff.1 HSr.out.kb).1).trans HSr.out.kb
        have c8 : w8.cell? ⟨Kb, 0, none⟩ = some (.int .i64 x) := by simp [World.cell?, hk8]
        have cl8 : Kb < w8.heap.size := (Array.getElem?_eq_some_iff.1 hk8).1
        have HN8 := Keep.mk (name_any c8 hk9 hj')
        clear hb8 p0 p1 p2 pl c0 cl hk8
        generalize nmF x j = nm at *
        have qe : (nm.toList == nm.toList) = true := by simp
        go_wp2_with fail
        refine HN8.out.mono ?_
        rintro _ w9 ⟨rfl, hb9⟩
        have HB9 := Keep.mk (HB8.out.trans (hb9.mono HB8.out.size))
        clear hb9
        go_wp2_with fail
        go_ret
        exact ⟨rfl, HB9.out⟩

theorem CheckerForward_walk : LawWalk 6 Try.f6 := by
  intro H enc W base args ds ps hval hA hsz
  rw [Try.params6] at hA hval hsz
  obtain ⟨v0, vs0, d0, ds0, p0, q0, hargs, rfl, rfl, h0, r0⟩ := trodAll_cons hA
  obtain ⟨v1, vs1, d1, ds1, p1, q1, rfl, rfl, rfl, h1, r1⟩ := trodAll_cons r0
  obtain ⟨v2, vs2, d2, ds2, p2, q2, rfl, rfl, rfl, h2, r2⟩ := trodAll_cons r1
  obtain ⟨rfl, rfl, rfl⟩ := trodAll_nil r2
  obtain rfl : args = #[v0, v1, v2] := by cases args; simp_all
  obtain ⟨n, rfl, rfl, rfl, hn⟩ := open_int Try.underlying5 (hval 0 5 v0 rfl rfl) h0
  obtain ⟨f, rfl, rfl, rfl, hf⟩ := open_int Try.underlying5 (hval 1 5 v1 rfl rfl) h1
  obtain ⟨t, rfl, rfl, rfl, ht⟩ := open_int Try.underlying5 (hval 2 5 v2 rfl rfl) h2
  have hn' : 0 ≤ n ∧ n ≤ 255 := by simpa [Lit.wf, IntKind.min, IntKind.max, IntKind.signed, IntKind.bits] using hn
  have hf' : 0 ≤ f ∧ f ≤ 255 := by simpa [Lit.wf, IntKind.min, IntKind.max, IntKind.signed, IntKind.bits] using hf
  have ht' : 0 ≤ t ∧ t ≤ 255 := by simpa [Lit.wf, IntKind.min, IntKind.max, IntKind.signed, IntKind.bits] using ht
  obtain ⟨n, rfl⟩ := Int.eq_ofNat_of_zero_le hn'.1
  obtain ⟨f, rfl⟩ := Int.eq_ofNat_of_zero_le hf'.1
  obtain ⟨t, rfl⟩ := Int.eq_ofNat_of_zero_le ht'.1
  exact checkerForward_any n f t W (by omega) (by omega) (by omega)
end Go.Proofs.Ytgimdbflpdmlmaa
namespace Go.Proofs.Ytgimdbflpdmlmaa
open Go.ChangeShapes Go.WideShapes Go.ChangeAt Go.RowKit
set_option maxRecDepth 100000 in
theorem CheckerForward_lifted (os : Os) (started : os.Started) (H : Type) (enc : TypeId × Value → H) :
    ReturnsInHanded {} Try.checked os 6 .any (Rows.checkerForwardSpec.pre6 enc Try.prog Try.f6 Rows.checkerForwardRow.domain false) (Rows.checkerForwardSpec.post enc Try.prog Try.f6 false true false false) := by
  refine returnsInHanded_of_change_sized (C := Try.checked) own started (by kernel_rfl) Try.func6
    (ChangeSpec.witness6 (enc := enc) (C := Try.checked) false ⟨#[], #[.int .u8 0, .int .u8 0, .int .u8 0], []⟩ 8 (by kernel_rfl) (by kernel_rfl) (by kernel_rfl) (by kernel_rfl)) ?_
  exact law_contract (by kernel_rfl) (by kernel_rfl) ⟨rfl, fun H ds h => by rw [Try.params6] at h; match ds, h with | [d0, d1, d2], _ => rfl⟩ CheckerForward_walk
theorem CheckerForward_over : Rows.checkerForwardRow.holds Try.pinned (OpenSpec.ofChange Rows.checkerForwardSpec) :=
  OpenClaim.holds_of_wide 6 Try.f6 rfl rfl rfl rfl rfl rfl rfl ⟨rfl, rfl, rfl, rfl, rfl⟩ rfl rfl rfl rfl rfl (by kernel_rfl) Try.func6 (by kernel_rfl)
    (of_decide_eq_true (by kernel_rfl)) (by unfold Func.isWrapper; first | (rw [if_pos (by decide +kernel)]; kernel_rfl) | (rw [if_neg (by decide +kernel)]; exact ⟨rfl, rfl⟩))
    (fun os started H enc _ => CheckerForward_lifted os started H enc)
theorem CheckerForward_proved : Rows.CheckerForwardSaid := CheckerForward_over
end Go.Proofs.Ytgimdbflpdmlmaa
