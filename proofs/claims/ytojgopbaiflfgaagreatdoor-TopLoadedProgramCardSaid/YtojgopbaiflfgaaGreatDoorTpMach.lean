/- The reading machine in plain Lean, and how it lies in memory. No condition. machine.binaries: the map of the instructions with two operands. No condition. -/
import Derived.Test.YtojgopbaiflfgaaGreatDoorB2Arr
import Derived.Test.YtojgopbaiflfgaaGreatDoorSlc
import Derived.Test.YtojgopbaiflfgaaGreatDoorMaps
import Derived.Deep.DeepMust
namespace Go.Proofs.YtojgopbaiflfgaaGreatDoor
set_option maxRecDepth 100000
open Go.RowKit Go.Shelf Go.Proofs.YtojgopbaiflfgaaGreatDoor.B2 Go.Instr

structure St where
  mem : Nat → W
  pc : W
  data : List W
  calls : List W
  inp : List W
  out : List UInt8
  digit : Bool
  stop : Bool
def isDig (c : W) : Bool := decide (48 ≤ c.toNat) && decide (c.toNat ≤ 57)
def pushS (s : St) (v : W) : Option St := if s.data.length < 256 then some { s with data := v :: s.data } else none
def lowB (v : W) : UInt8 := UInt8.ofNat (v.toNat % 256)
/-- The instructions with two operands. -/
def binC (c a b : W) : Option W :=
  if c = 43#32 then some (a + b)
  else if c = 45#32 then some (a - b)
  else if c = 42#32 then some (a * b)
  else if c = 47#32 then (if b = 0#32 then none else some (a / b))
  else if c = 37#32 then (if b = 0#32 then none else some (a % b))
  else if c = 94#32 then some (a ^^^ b)
  else if c = 60#32 then some (if a.toNat < b.toNat then 1#32 else 0#32)
  else none
/-- One instruction; none: it traps. -/
def execC (s : St) (c : W) : Option St :=
  if isDig c = true then
    if s.digit = true then (match s.data with | t :: d => some { s with data := (t * 10#32 + c - 48#32) :: d } | [] => none)
    else pushS s (c - 48#32)
  else if c = 32#32 ∨ c = 10#32 then some s
  else if c = 64#32 then (match s.data with | a :: d => if a.toNat < 262144 then some { s with data := s.mem a.toNat :: d } else none | [] => none)
  else if c = 33#32 then (match s.data with
    | a :: d => if a.toNat < 262144 then (match d with | v :: d' => some { s with mem := fun i => if i = a.toNat then v else s.mem i, data := d' } | [] => none) else none
    | [] => none)
  else if c = 63#32 then (match s.data with | t :: v :: d => some { s with pc := if v = 0#32 then t else s.pc, data := d } | _ => none)
  else if c = 58#32 then (match s.data with | t :: d => if s.calls.length < 64 then some { s with pc := t, calls := s.pc :: s.calls, data := d } else none | [] => none)
  else if c = 59#32 then (match s.calls with | r :: cs => some { s with pc := r, calls := cs } | [] => none)
  else if c = 44#32 then pushS { s with inp := s.inp.tail } (s.inp.head?.getD 4294967295#32)
  else if c = 46#32 then (match s.data with | v :: d => some { s with out := s.out ++ [lowB v], data := d } | [] => none)
  else if c = 36#32 then some { s with stop := true }
  else (match s.data with | b :: a :: d => (match binC c a b with | some r => some { s with data := r :: d } | none => none) | _ => none)
/-- Up to f steps: what was written, the error, the number of steps. -/
def runC : Nat → St → Nat → List UInt8 × Nat × Nat
  | 0, s, k => (s.out, 13, k)
  | f + 1, s, k =>
    if s.pc.toNat < 262144 then
      match execC { s with pc := s.pc + 1#32 } (s.mem s.pc.toNat) with
      | none => (s.out, 12, k + 1)
      | some s' => if s'.stop = true then (s'.out, 0, k + 1) else runC f { s' with digit := isDig (s.mem s.pc.toNat) } (k + 1)
    else (s.out, 12, k + 1)

def byteV (l : List UInt8) : List Value := l.map fun b => Value.int .u8 (b.toNat : Int)
def noTr : Value := .iface 102 (.agg #[])
def Traps (e : Ending) : Prop := e = .panicked [{ v := noTr, recovered := false }]
/-- The block M holds the machine's memory. -/
def MemIs (w : World) (M : Nat) (mem : Nat → W) : Prop := ∃ cur, w.heap[M]? = some (.cells cur 29 (0, 0)) ∧ cur.size = 262144 ∧ ∀ i, i < 262144 → cur[i]? = some (wv (mem i))
theorem MemIs.lt {w : World} {M : Nat} {mem : Nat → W} (h : MemIs w M mem) : M < w.heap.size := by obtain ⟨cur, h1, _⟩ := h; exact (Array.getElem?_eq_some_iff.1 h1).1
theorem MemIs.cell {w : World} {M : Nat} {mem : Nat → W} (h : MemIs w M mem) {i : Nat} (hi : i < 262144) : w.cell? ⟨M, i, none⟩ = some (.int .u32 (W32 (mem i))) := by
  obtain ⟨cur, h1, _, h3⟩ := h
  simp only [World.cell?, h1]
  exact h3 i hi
theorem MemIs.frozen {w : World} {M : Nat} {mem : Nat → W} (h : MemIs w M mem) (i : Nat) : w.frozen? ⟨M, i, none⟩ = false := by
  obtain ⟨cur, h1, _⟩ := h
  simp [World.frozen?, h1]
theorem MemIs.block {w w' : World} {M : Nat} {mem : Nat → W} (h : MemIs w M mem) (hb : w'.heap[M]? = w.heap[M]?) : MemIs w' M mem := by
  obtain ⟨cur, h1, h2⟩ := h
  exact ⟨cur, hb.trans h1, h2⟩
theorem MemIs.set {w : World} {M : Nat} {mem : Nat → W} (h : MemIs w M mem) (a : Nat) (v : W) : MemIs (w.setCell ⟨M, a, none⟩ (.int .u32 (W32 v))) M (fun i => if i = a then v else mem i) := by
  obtain ⟨cur, h1, h2, h3⟩ := h
  refine ⟨_, heap_setCell_same w M a _ _ _ h1, by simpa using h2, fun i hi => ?_⟩
  have h4 := h3 i hi
  show _ = some (wv (if i = a then v else mem i))
  by_cases hia : i = a
  · subst hia
    rw [if_pos rfl]
    simp [h2, hi, wv]
  · rw [if_neg hia, ← h4]
    simp [Ne.symm hia]
/-- Keys of 32 bits. -/
noncomputable abbrev kW : KeyK Int Tryz.prog 29 where
  kv := Value.int .u32
  desc := .int .u32
  und := Tryz.underlying29
  same := fun a b => by simp [sameNow]; rfl
  chk := fun e a w => run_checkKey_int Tryz.underlying29 _ w e
  bits := fun a => by simp [sameBits]
def binV (f : Nat) : Value := .func (.func f) #[] #[]
def binL : List (Int × Value) := [(43, binV 40), (45, binV 41), (42, binV 42), (47, binV 43), (37, binV 45), (94, binV 46), (60, binV 47)]
/-- Types of blocks that a machine writes. -/
def MTy (o : Obj) : Prop := ∃ cs t f, o = .cells cs t f ∧ (t = 80 ∨ t = 29 ∨ t = 5)
/-- What a step leaves as it lay. -/
structure Mw (base : Nat) (w w' : World) : Prop where
  os : w'.os = w.os
  tape : w'.tape = w.tape
  output : w'.output = w.output
  size : w.heap.size ≤ w'.heap.size
  block : ∀ k o, w.heap[k]? = some o → (k < base ∨ ¬ MTy o) → w'.heap[k]? = some o
theorem Mw.refl (base : Nat) (w : World) : Mw base w w := ⟨rfl, rfl, rfl, Nat.le_refl _, fun _ _ h _ => h⟩
theorem Mw.trans {base : Nat} {a b c : World} (h : Mw base a b) (h' : Mw base b c) : Mw base a c :=
  ⟨h'.os.trans h.os, h'.tape.trans h.tape, h'.output.trans h.output, Nat.le_trans h.size h'.size, fun k _ hk hn => h'.block k _ (h.block k _ hk hn) hn⟩
theorem Mw.below {base : Nat} {w w' : World} (h : Mw base w w') (hb : base ≤ w.heap.size) : Below base w w' :=
  ⟨h.os, h.tape, h.output, h.size, fun k hk => by
    have hlt : k < w.heap.size := by omega
    have h1 : w.heap[k]? = some w.heap[k] := Array.getElem?_eq_getElem hlt
    rw [h1]
    exact h.block k _ h1 (.inl hk)⟩
theorem Mw.grown {base : Nat} {w w' : World} {X : Nat} {cs : Array Value} {t : TypeId} {f : Nat × Nat} (hX : w.heap[X]? = some (.cells cs t f)) (hb : base ≤ X) (ht : t = 80 ∨ t = 29 ∨ t = 5) (hg : w.grownBy w' (some X)) : Mw base w w' :=
  ⟨hg.os, hg.tape, hg.output, hg.size, fun k o hk hn => by
    refine (hg.block k (Array.getElem?_eq_some_iff.1 hk).1 (fun e => ?_)).trans hk
    simp only [Option.some.injEq] at e
    subst e
    rcases hn with hn | hn
    · omega
    · rw [hX] at hk
      simp only [Option.some.injEq] at hk
      exact hn ⟨cs, t, f, hk.symm, ht⟩⟩
theorem Mw.of_below {base : Nat} {w w' : World} (h : Below w.heap.size w w') : Mw base w w' :=
  ⟨h.os, h.tape, h.output, h.size, fun k _ hk _ => (h.block k (Array.getElem?_eq_some_iff.1 hk).1).trans hk⟩
def boxC (M G : Nat) (s : St) (k : Nat) (dv cv iv ov : Value) : Array Value := #[.slice (some ⟨M, 0, none⟩) 262144 262144, .int .u32 (W32 s.pc), dv, cv, iv, ov, .bool s.digit, .int .i64 (k : Int), .bool s.stop, .map (some G)]
/-- The machine in memory; its slices named. -/
structure MAt (w : World) (base B M G : Nat) (s : St) (k : Nat) (dv cv iv ov : Value) : Prop where
  box : w.heap[B]? = some (.cells (boxC M G s k dv cv iv ov) 80 (0, 0))
  mem : MemIs w M s.mem
  data : w.ownsRow base 29 1 dv s.data.length (wvs s.data.reverse)
  calls : w.ownsRow base 29 1 cv s.calls.length (wvs s.calls.reverse)
  inp : Slc w 1 iv s.inp.length (wvs s.inp)
  inpb : ∀ k, iv.ownBlock = some k → k < base
  out : w.ownsRow base 5 1 ov s.out.length (byteV s.out)
  bins : MapIs kW w G binL
  bB : base ≤ B
  bM : base ≤ M
  dM : dv.ownBlock ≠ some M
  cM : cv.ownBlock ≠ some M
  dc : ∀ k, dv.ownBlock = some k → cv.ownBlock ≠ some k
  d256 : s.data.length ≤ 256
  c64 : s.calls.length ≤ 64
  o20 : s.out.length ≤ 100000000
section
variable {w w' : World} {base B M G : Nat} {s : St} {k : Nat} {dv cv iv ov : Value}
theorem row_kept {e : TypeId} {size n : Nat} {v : Value} {xs : List Value} {row : Option Nat} (h : w.ownsRow base e size v n xs) (hg : w.grownBy w' row) (hne : ∀ r, row = some r → v.ownBlock ≠ some r) : w'.ownsRow base e size v n xs := by
  obtain ⟨h1, h2 | ⟨g, cap, cur, rfl, hb, hh, r⟩⟩ := h
  · exact ⟨h1, .inl h2⟩
  · exact ⟨h1, .inr ⟨g, cap, cur, rfl, hb, (hg.block g (Array.getElem?_eq_some_iff.1 hh).1 (fun e => hne g e.symm rfl)).trans hh, r⟩⟩
theorem row_block {e : TypeId} {size n : Nat} {v : Value} {xs : List Value} (h : w.ownsRow base e size v n xs) {r : Nat} (hr : v.ownBlock = some r) : ∃ cur, w.heap[r]? = some (.cells cur e (0, 0)) ∧ base ≤ r := by
  obtain ⟨h1, ⟨rfl, _⟩ | ⟨g, cap, cur, rfl, hb, hh, _⟩⟩ := h
  · cases hr
  · simp only [Value.ownBlock, Option.some.injEq] at hr
    subst hr
    exact ⟨cur, hh, hb⟩
theorem row_ty {e t : TypeId} {size n : Nat} {v : Value} {xs : List Value} {r : Nat} {cs : Array Value} {f : Nat × Nat} (h : w.ownsRow base e size v n xs) (hr : w.heap[r]? = some (.cells cs t f)) (hne : e ≠ t) : v.ownBlock ≠ some r := fun hv => by
  obtain ⟨cur, hh, _⟩ := row_block h hv
  rw [hr] at hh
  simp only [Option.some.injEq, Obj.cells.injEq] at hh
  exact hne hh.2.1.symm
theorem slc_kept {size n : Nat} {v : Value} {xs : List Value} {row : Option Nat} (h : Slc w size v n xs) (hg : w.grownBy w' row) (hne : ∀ r, row = some r → v.ownBlock ≠ some r) : Slc w' size v n xs := by
  obtain ⟨a, cap, rfl, h1, h2, h3, h4⟩ := h
  refine ⟨a, cap, rfl, h1, h2, h3, h4.imp id ?_⟩
  rintro ⟨b, o, rfl, hlt, hc⟩
  exact ⟨b, o, rfl, Nat.lt_of_lt_of_le hlt hg.size, fun j u hu => (World.cell?_of_block (a := ⟨b, o + j, none⟩) (hg.block b hlt (fun e => hne b e.symm rfl))).trans (hc j u hu)⟩
theorem map_kept {κ : Type} [DecidableEq κ] {P : Program} {kt : TypeId} {K : KeyK κ P kt} {b r : Nat} {l : List (κ × Value)} {cs : Array Value} {t : TypeId} {f : Nat × Nat} (h : MapIs K w b l) (hr : w.heap[r]? = some (.cells cs t f)) (hg : w.grownBy w' (some r)) : MapIs K w' b l :=
  h.kept hg (fun e => by
    obtain ⟨es, clock, h1, _⟩ := h
    simp only [Option.some.injEq] at e
    subst e
    rw [hr] at h1
    cases h1)
theorem setCell_grown (w : World) (p : Addr) (u : Value) : w.grownBy (w.setCell p u) (some p.block) :=
  ⟨rfl, rfl, rfl, by simp [World.setCell], fun k _ hk => Below.heap_setCell _ _ _ _ (fun e => hk (by rw [e]))⟩
/-- The box is written. -/
theorem MAt.setB0 {C : Array Value} {s' : St} {k' : Nat} {dv' cv' iv' ov' : Value} (hB : w.heap[B]? = some (.cells C 80 (0, 0))) (i : Nat) (u : Value) (hbox : C.setIfInBounds i u = boxC M G s' k' dv' cv' iv' ov')
    (hmem : MemIs w M s'.mem) (hdata : w.ownsRow base 29 1 dv' s'.data.length (wvs s'.data.reverse)) (hcalls : w.ownsRow base 29 1 cv' s'.calls.length (wvs s'.calls.reverse)) (hinp : Slc w 1 iv' s'.inp.length (wvs s'.inp)) (hinpb : ∀ k, iv'.ownBlock = some k → k < base)
    (hout : w.ownsRow base 5 1 ov' s'.out.length (byteV s'.out)) (hbins : MapIs kW w G binL) (bB : base ≤ B) (bM : base ≤ M) (dM : dv'.ownBlock ≠ some M) (cM : cv'.ownBlock ≠ some M) (dc : ∀ k, dv'.ownBlock = some k → cv'.ownBlock ≠ some k) (d256 : s'.data.length ≤ 256) (c64 : s'.calls.length ≤ 64) (o20 : s'.out.length ≤ 100000000) :
    MAt (w.setCell ⟨B, i, none⟩ u) base B M G s' k' dv' cv' iv' ov' := by
  have hg := setCell_grown w ⟨B, i, none⟩ u
  have hMB : M ≠ B := fun e => by
    obtain ⟨cur, h1, _⟩ := hmem
    rw [e, hB] at h1
    simp at h1
  refine ⟨?_, ?_, row_kept hdata hg (fun r e => ?_), row_kept hcalls hg (fun r e => ?_), slc_kept hinp hg (fun r e hr => ?_), hinpb, row_kept hout hg (fun r e => ?_), map_kept hbins hB hg, bB, bM, dM, cM, dc, d256, c64, o20⟩
  · rw [heap_setCell_same w B i _ _ _ hB, ← hbox]
  · exact hmem.block (hg.block M hmem.lt (fun e => hMB (by simpa using e)))
  · simp only [Option.some.injEq] at e; subst e; exact row_ty hdata hB (by decide)
  · simp only [Option.some.injEq] at e; subst e; exact row_ty hcalls hB (by decide)
  · simp only [Option.some.injEq] at e; subst e; have := hinpb _ hr; omega
  · simp only [Option.some.injEq] at e; subst e; exact row_ty hout hB (by decide)
theorem MAt.setB {s' : St} {k' : Nat} {dv' cv' iv' ov' : Value} (h : MAt w base B M G s k dv cv iv ov) (i : Nat) (u : Value) (hbox : (boxC M G s k dv cv iv ov).setIfInBounds i u = boxC M G s' k' dv' cv' iv' ov')
    (hmem : s'.mem = s.mem) (hdata : w.ownsRow base 29 1 dv' s'.data.length (wvs s'.data.reverse)) (hcalls : w.ownsRow base 29 1 cv' s'.calls.length (wvs s'.calls.reverse)) (hinp : Slc w 1 iv' s'.inp.length (wvs s'.inp)) (hinpb : ∀ k, iv'.ownBlock = some k → k < base)
    (hout : w.ownsRow base 5 1 ov' s'.out.length (byteV s'.out)) (dM : dv'.ownBlock ≠ some M) (cM : cv'.ownBlock ≠ some M) (dc : ∀ k, dv'.ownBlock = some k → cv'.ownBlock ≠ some k) (d256 : s'.data.length ≤ 256) (c64 : s'.calls.length ≤ 64) (o20 : s'.out.length ≤ 100000000) :
    MAt (w.setCell ⟨B, i, none⟩ u) base B M G s' k' dv' cv' iv' ov' :=
  MAt.setB0 h.box i u hbox (by rw [hmem]; exact h.mem) hdata hcalls hinp hinpb hout h.bins h.bB h.bM dM cM dc d256 c64 o20
theorem MAt.lt (h : MAt w base B M G s k dv cv iv ov) : B < w.heap.size := (Array.getElem?_eq_some_iff.1 h.box).1
theorem MAt.cell (h : MAt w base B M G s k dv cv iv ov) (i : Nat) : w.cell? ⟨B, i, none⟩ = (boxC M G s k dv cv iv ov)[i]? := by simp [World.cell?, h.box]
theorem MAt.frozen (h : MAt w base B M G s k dv cv iv ov) (i : Nat) : w.frozen? ⟨B, i, none⟩ = false := by simp [World.frozen?, h.box]
/-- What lay stays. -/
theorem MAt.below (h : MAt w base B M G s k dv cv iv ov) (hb : Below w.heap.size w w') : MAt w' base B M G s k dv cv iv ov := by
  have hg : w.grownBy w' none := ⟨hb.os, hb.tape, hb.output, hb.size, fun k hk _ => hb.block k hk⟩
  exact ⟨(hb.block B h.lt).trans h.box, h.mem.block (hb.block M h.mem.lt), row_kept h.data hg (fun _ e => by cases e), row_kept h.calls hg (fun _ e => by cases e), slc_kept h.inp hg (fun _ e => by cases e), h.inpb, row_kept h.out hg (fun _ e => by cases e),
    h.bins.kept hg (by simp), h.bB, h.bM, h.dM, h.cM, h.dc, h.d256, h.c64, h.o20⟩
theorem MAt.mw (h : MAt w base B M G s k dv cv iv ov) (i : Nat) (u : Value) : Mw base w (w.setCell ⟨B, i, none⟩ u) :=
  Mw.grown h.box h.bB (.inl rfl) (setCell_grown w ⟨B, i, none⟩ u)
/-- A row that is written or moved leaves the rest. -/
theorem MAt.rest (h : MAt w base B M G s k dv cv iv ov) {e : TypeId} {n : Nat} {v : Value} {xs : List Value} (hr : w.ownsRow base e 1 v n xs) (he : e = 29 ∨ e = 5) (hM : v.ownBlock ≠ some M) (hg : w.grownBy w' v.ownBlock) :
    w'.heap[B]? = some (.cells (boxC M G s k dv cv iv ov) 80 (0, 0)) ∧ MemIs w' M s.mem ∧ Slc w' 1 iv s.inp.length (wvs s.inp) ∧ MapIs kW w' G binL ∧ Mw base w w' := by
  have hB : ∀ r, v.ownBlock = some r → r ≠ B := fun r hv e' => by
    subst e'
    exact row_ty hr h.box (by rcases he with rfl | rfl <;> decide) hv
  refine ⟨(hg.block B h.lt (fun e' => hB B e'.symm rfl)).trans h.box, h.mem.block (hg.block M h.mem.lt (fun e' => hM e'.symm)), slc_kept h.inp hg (fun r e' hi => ?_), ?_, ?_⟩
  · obtain ⟨_, _, hb⟩ := row_block hr e'
    have := h.inpb r hi
    omega
  · cases hv : v.ownBlock with
    | none => exact h.bins.kept hg (by rw [hv]; simp)
    | some r =>
      obtain ⟨cur, hh, _⟩ := row_block hr hv
      rw [hv] at hg
      exact map_kept h.bins hh hg
  · cases hv : v.ownBlock with
    | none =>
      rw [hv] at hg
      exact Mw.of_below ⟨hg.os, hg.tape, hg.output, hg.size, fun k hk => hg.block k hk (by simp)⟩
    | some r =>
      obtain ⟨cur, hh, hb⟩ := row_block hr hv
      rw [hv] at hg
      exact Mw.grown hh hb (by rcases he with rfl | rfl <;> simp) hg
theorem fresh_ne {v v' : Value} {M : Nat} (hv : v'.ownBlock = v.ownBlock ∨ v'.ownBlock = some w.heap.size) (h1 : v.ownBlock ≠ some M) (h2 : M < w.heap.size) : v'.ownBlock ≠ some M := by
  rcases hv with hv | hv
  · rw [hv]; exact h1
  · rw [hv]; intro e; simp only [Option.some.injEq] at e; omega
/-- A value is pushed. -/
theorem MAt.pushed (h : MAt w base B M G s k dv cv iv ov) (v : W) {v' : Value} (hl : s.data.length < 256) (hown : w'.ownsRow base 29 1 v' (s.data.length + 1) (wvs s.data.reverse ++ [.int .u32 (W32 v)])) (hg : w.grownBy w' dv.ownBlock) (hv : v'.ownBlock = dv.ownBlock ∨ v'.ownBlock = some w.heap.size) :
    (w'.heap[B]? = some (.cells (boxC M G s k dv cv iv ov) 80 (0, 0))) ∧ MAt (w'.setCell ⟨B, 2, none⟩ v') base B M G { s with data := v :: s.data } k v' cv iv ov ∧ Mw base w (w'.setCell ⟨B, 2, none⟩ v') := by
  obtain ⟨r1, r2, r3, r4, r5⟩ := h.rest h.data (.inl rfl) h.dM hg
  refine ⟨r1, MAt.setB0 r1 2 v' rfl r2 ?_ (row_kept h.calls hg (fun r e => h.dc r e)) r3 h.inpb (row_kept h.out hg (fun r e hr => ?_)) r4 h.bB h.bM (fresh_ne hv h.dM h.mem.lt) h.cM (fun r hr => ?_) (by simp; omega) h.c64 h.o20, r5.trans (Mw.grown r1 h.bB (.inl rfl) (setCell_grown w' ⟨B, 2, none⟩ v'))⟩
  · simpa [wvs, wv] using hown
  · obtain ⟨c1, h1, _⟩ := row_block h.data e
    obtain ⟨c2, h2, _⟩ := row_block h.out hr
    rw [h1] at h2
    simp at h2
  · rcases hv with hv | hv
    · exact h.dc r (hv ▸ hr)
    · rw [hv] at hr
      simp only [Option.some.injEq] at hr
      subst hr
      intro hc
      obtain ⟨c2, h2, _⟩ := row_block h.calls hc
      have := (Array.getElem?_eq_some_iff.1 h2).1
      omega
/-- An address is stacked. -/
theorem MAt.called (h : MAt w base B M G s k dv cv iv ov) (v : W) {v' : Value} (hl : s.calls.length < 64) (hown : w'.ownsRow base 29 1 v' (s.calls.length + 1) (wvs s.calls.reverse ++ [.int .u32 (W32 v)])) (hg : w.grownBy w' cv.ownBlock) (hv : v'.ownBlock = cv.ownBlock ∨ v'.ownBlock = some w.heap.size) :
    (w'.heap[B]? = some (.cells (boxC M G s k dv cv iv ov) 80 (0, 0))) ∧ MAt (w'.setCell ⟨B, 3, none⟩ v') base B M G { s with calls := v :: s.calls } k dv v' iv ov ∧ Mw base w (w'.setCell ⟨B, 3, none⟩ v') := by
  obtain ⟨r1, r2, r3, r4, r5⟩ := h.rest h.calls (.inl rfl) h.cM hg
  refine ⟨r1, MAt.setB0 r1 3 v' rfl r2 (row_kept h.data hg (fun r e hd => h.dc r hd e)) ?_ r3 h.inpb (row_kept h.out hg (fun r e hr => ?_)) r4 h.bB h.bM h.dM (fresh_ne hv h.cM h.mem.lt) (fun r hd hr => ?_) h.d256 (by simp; omega) h.o20, r5.trans (Mw.grown r1 h.bB (.inl rfl) (setCell_grown w' ⟨B, 3, none⟩ v'))⟩
  · simpa [wvs, wv] using hown
  · obtain ⟨c1, h1, _⟩ := row_block h.calls e
    obtain ⟨c2, h2, _⟩ := row_block h.out hr
    rw [h1] at h2
    simp at h2
  · rcases hv with hv | hv
    · exact h.dc r hd (hv ▸ hr)
    · rw [hv] at hr
      simp only [Option.some.injEq] at hr
      subst hr
      obtain ⟨c2, h2, _⟩ := row_block h.data hd
      have := (Array.getElem?_eq_some_iff.1 h2).1
      omega
/-- A byte is written. -/
theorem MAt.wrote (h : MAt w base B M G s k dv cv iv ov) (b : UInt8) {v' : Value} (hl : s.out.length < 100000000) (hown : w'.ownsRow base 5 1 v' (s.out.length + 1) (byteV s.out ++ [.int .u8 (b.toNat : Int)])) (hg : w.grownBy w' ov.ownBlock) :
    (w'.heap[B]? = some (.cells (boxC M G s k dv cv iv ov) 80 (0, 0))) ∧ MAt (w'.setCell ⟨B, 5, none⟩ v') base B M G { s with out := s.out ++ [b] } k dv cv iv v' ∧ Mw base w (w'.setCell ⟨B, 5, none⟩ v') := by
  have hM : ov.ownBlock ≠ some M := fun e => by
    obtain ⟨c2, h2, _⟩ := row_block h.out e
    obtain ⟨c1, h1, _⟩ := h.mem
    rw [h1] at h2
    simp at h2
  obtain ⟨r1, r2, r3, r4, r5⟩ := h.rest h.out (.inr rfl) hM hg
  have ne : ∀ {n : Nat} {v : Value} {xs : List Value}, w.ownsRow base 29 1 v n xs → ∀ r, ov.ownBlock = some r → v.ownBlock ≠ some r := fun hr r e hv => by
    obtain ⟨c1, h1, _⟩ := row_block h.out e
    obtain ⟨c2, h2, _⟩ := row_block hr hv
    rw [h1] at h2
    simp at h2
  refine ⟨r1, MAt.setB0 r1 5 v' rfl r2 (row_kept h.data hg (ne h.data)) (row_kept h.calls hg (ne h.calls)) r3 h.inpb ?_ r4 h.bB h.bM h.dM h.cM h.dc h.d256 h.c64 (by simp; omega), r5.trans (Mw.grown r1 h.bB (.inl rfl) (setCell_grown w' ⟨B, 5, none⟩ v'))⟩
  simpa [byteV] using hown
/-- A word of the memory is written. -/
theorem MAt.stored (h : MAt w base B M G s k dv cv iv ov) (a : Nat) (v : W) :
    MAt (w.setCell ⟨M, a, none⟩ (.int .u32 (W32 v))) base B M G { s with mem := fun i => if i = a then v else s.mem i } k dv cv iv ov ∧ Mw base w (w.setCell ⟨M, a, none⟩ (.int .u32 (W32 v))) := by
  have hg := setCell_grown w ⟨M, a, none⟩ (.int .u32 (W32 v))
  obtain ⟨cur, h1, h2⟩ := h.mem
  have hne : M ≠ B := fun e => by
    rw [e, h.box] at h1
    simp at h1
  refine ⟨⟨(hg.block B h.lt (fun e => hne (by simpa using e.symm))).trans h.box, h.mem.set a v, row_kept h.data hg (fun r e => ?_), row_kept h.calls hg (fun r e => ?_), slc_kept h.inp hg (fun r e hr => ?_), h.inpb, row_kept h.out hg (fun r e => ?_), map_kept h.bins h1 hg, h.bB, h.bM, h.dM, h.cM, h.dc, h.d256, h.c64, h.o20⟩, Mw.grown h1 h.bM (.inr (.inl rfl)) hg⟩
  · simp only [Option.some.injEq] at e; subst e; exact h.dM
  · simp only [Option.some.injEq] at e; subst e; exact h.cM
  · simp only [Option.some.injEq] at e; subst e; have := h.inpb _ hr; have := h.bM; omega
  · simp only [Option.some.injEq] at e; subst e; exact row_ty h.out h1 (by decide)
end
def MIn (w : World) (base B M G : Nat) (s : St) (k : Nat) : Prop := ∃ dv cv iv ov, MAt w base B M G s k dv cv iv ov
open Go.RowKit Go.Shelf Go.Proofs.YtojgopbaiflfgaaGreatDoor.B2

/-- A map of the call's own, being filled. -/
def MBw (w0 w : World) (b : Nat) (l : List (Int × Value)) : Prop := MapIs kW w b l ∧ Below w0.heap.size w0 w ∧ w0.heap.size ≤ b
theorem wpList_insertW {w0 w : World} {b : Nat} {l : List (Int × Value)} {ops : Array Oper} {rest : List Oper} {o : Oper} {a : Act} {Q : Exit → Act → World → Prop}
    (hg : o.guard = none) (m : Operand) (t : TypeId) (k : Int) (f : FuncId) (hop : o.op = Op.insert t m (.const (.int .u32 k)) (.func f)) {e : TypeId} (ht : Tryz.prog.underlying t = some (.map 29 e))
    (hm : a.eval m = .map (some b)) (h : MBw w0 w b l)
    (hK : ∀ w', MBw w0 w' b (putL k (binV f) l) → wpList Tryz.prog ops Q rest (a.put o.dst undef) w') :
    wpList Tryz.prog ops Q (o :: rest) a w := by
  refine wpList_plain hg fun K' hK' => ?_
  obtain ⟨h1, h2, h3⟩ := h
  obtain ⟨w', hrun, r1, r2⟩ := h1.store ht k (binV f)
  unfold Oper.wp
  have hrun' : (Instr.mapUpdate t (.map (some b)) (.int .u32 k) (binV f)).run Tryz.prog w = .ok () w' := hrun
  have hc : ∀ v : Value, a.eval (.const v) = v := fun _ => rfl
  have hf : a.eval (.func f) = binV f := rfl
  simp [execOp, hop, hm, hc, hf, hrun', Result.andThen]
  exact hK' _ _ (hK w' ⟨r1, h2.grown r2 h2.size (fun j hj => by cases hj; exact h3), h3⟩)
set_option maxHeartbeats 4000000 in
theorem binaries_any (w : World) : Calls Tryz.prog 24 #[] w fun e w' => ∃ G, e = .returned (.map (some G)) ∧ w.heap.size ≤ G ∧ MapIs kW w' G binL ∧ Below w.heap.size w w' := by
  have hmm := @run_makeMap Tryz.prog
  have H0 : MBw w (w.alloc (.map #[] 0)) w.heap.size [] := ⟨MapIs.made kW w, (Below.refl _ _).alloc (Nat.le_refl _) _, Nat.le_refl _⟩
  go_enter Tryz.func24, Tryz.ntmps24
  go_wp2_with ((with_reducible (show wpList _ _ _ (⟨none, Op.insert _ _ _ _, _, _, _, _⟩ :: _) _ _)); go_must (refine wpList_insertW rfl _ _ _ _ rfl Tryz.underlying77 rfl (by assumption) ?_); intro w' hM')
  go_ret
  exact ⟨_, rfl, Nat.le_refl _, hM'.1, hM'.2.1⟩
end Go.Proofs.YtojgopbaiflfgaaGreatDoor
