/- machine.Run of one short text. Conditions: at most 1000 signs; bounds on the steps. -/
import Derived.Test.YtojgopbaiflfgaaGreatDoorTpRun
import Derived.Test.YtojgopbaiflfgaaGreatDoorTpMach
import Derived.Laws.MakeOwn
import Derived.Laws.OwnMore
namespace Go.Proofs.YtojgopbaiflfgaaGreatDoor
set_option maxRecDepth 100000
open Go.RowKit Go.Shelf Go.Proofs.YtojgopbaiflfgaaGreatDoor.B2

def stZ (inp : List W) (mem : Nat → W) : St := ⟨mem, 10000#32, [], [], inp, [], false, false⟩
/-- The text in memory, its first n signs. -/
def memT (T : ByteArray) (n : Nat) (i : Nat) : W := if 10000 ≤ i ∧ i < 10000 + n then BitVec.ofNat 32 (T.data.toList.getD (i - 10000) 0).toNat else 0#32
/-- What a run of a text gives. -/
def runT (T : ByteArray) (inp : List W) (f : Nat) : List UInt8 × Nat × Nat := runC f (stZ inp (memT T T.size)) 0
theorem mkMem (w : World) : ∃ cs, (Instr.makeSlice 44 (.int .i64 262144) (.int .i64 262144)).run Tryz.prog w = .ok (.slice (some ⟨w.heap.size, 0, none⟩) 262144 262144) (w.alloc (.cells cs 29)) ∧ cs.size = 262144 ∧ ∀ i, i < 262144 → cs[i]? = some (.int .u32 0) := by
  obtain ⟨i0, hi, hz0, hz1, hz2⟩ := info_parts Tryz.infoW
  have h := run_makeSlice (P := Tryz.prog) (w := w) 44 29 i0 (.int .u32 0) Tryz.underlying44 hi hz0 .i64 .i64 262144 262144 (by omega) (by omega) (by rw [hz1]; decide) (by rw [hz2]; decide) (by decide)
  have hl : (madeCells (Value.int .u32 0).cells ((262144 : Int).toNat * i0.size)).toList = List.replicate 262144 (.int .u32 0) := by
    rw [hz1]
    exact toList_madeCells_one (.int .u32 0) 262144
  refine ⟨_, h, ?_, fun i hi => ?_⟩
  · rw [size_madeCells, hz1]
    rfl
  · rw [← Array.getElem?_toList, hl, List.getElem?_replicate, if_pos hi]
def es13 (iv : Value) : List (Option Value) := [none, some (.int .i64 10000), some (.int .u32 10000), some iv, none, none, none, none]
/-- The memory while the machine is made. -/
structure S13 (w : World) (inp : List W) (iv : Value) (c0 c4 c5 c6 c7 : Bool) (v0 v4 v5 v6 v7 : Value) (wx : World) : Prop where
  bel : Below w.heap.size w wx
  o5 : c5 = true → c0 = true ∧ c4 = true
  o6 : c6 = true → c5 = true
  o7 : c7 = true → c6 = true
  m0 : c0 = true → ∃ M, v0 = .slice (some ⟨M, 0, none⟩) 262144 262144 ∧ w.heap.size ≤ M ∧ MemIs wx M (fun _ => 0#32)
  m4 : c4 = true → ∃ G, v4 = .map (some G) ∧ w.heap.size ≤ G ∧ MapIs kW wx G binL
  m5 : c5 = true → ∃ M G, v5 = .agg (boxC M G (stZ inp fun _ => 0#32) 0 (.slice none 0 0) (.slice none 0 0) iv (.slice none 0 0)) ∧ v0 = .slice (some ⟨M, 0, none⟩) 262144 262144 ∧ v4 = .map (some G) ∧ c0 = true ∧ c4 = true
  m6 : c6 = true → ∃ M G B, v6 = .pointer (some ⟨B, 0, none⟩) ∧ MIn wx w.heap.size B M G (stZ inp fun _ => 0#32) 0
  m7 : c7 = true → v7 = v6
section
variable {w wx : World} {inp : List W} {iv v0 v4 v5 v6 v7 : Value} {L : Nat → Bool}
theorem S13.start (w : World) (inp : List W) (iv : Value) : S13 w inp iv false false false false false v0 v4 v5 v6 v7 w.drew :=
  ⟨(Below.refl _ _).drew, (fun h => by cases h), (fun h => by cases h), (fun h => by cases h), (fun h => by cases h), (fun h => by cases h), (fun h => by cases h), (fun h => by cases h), (fun h => by cases h)⟩
theorem S13.no {i j : Nat} (h : L i = false) (hj : L j = true → L i = true) : L j = false := by
  cases e : L j with
  | false => rfl
  | true => rw [hj e] at h; cases h
theorem S13.make (h : S13 w inp iv (L 0) (L 4) (L 5) (L 6) (L 7) v0 v4 v5 v6 v7 wx) (h0 : L 0 = false) {cs : Array Value} (h1 : cs.size = 262144) (h2 : ∀ i, i < 262144 → cs[i]? = some (.int .u32 0)) :
    S13 w inp iv ((fun j => L j || j == 0) 0) ((fun j => L j || j == 0) 4) ((fun j => L j || j == 0) 5) ((fun j => L j || j == 0) 6) ((fun j => L j || j == 0) 7) (.slice (some ⟨wx.heap.size, 0, none⟩) 262144 262144) v4 v5 v6 v7 (wx.alloc (.cells cs 29)) := by
  have h5 : L 5 = false := S13.no h0 fun e => (h.o5 e).1
  have h6 : L 6 = false := S13.no h5 h.o6
  have h7 : L 7 = false := S13.no h6 h.o7
  have hb : Below wx.heap.size wx (wx.alloc (.cells cs 29)) := (Below.refl _ _).alloc (Nat.le_refl _) _
  refine ⟨h.bel.trans (hb.mono h.bel.size), by simp [h5], by simp [h6], by simp [h7], fun _ => ⟨wx.heap.size, rfl, h.bel.size, cs, heap_alloc_new wx _, h1, h2⟩, fun e => ?_, by simp [h5], by simp [h6], by simp [h7]⟩
  obtain ⟨G, e1, e2, e3⟩ := h.m4 (by simpa using e)
  exact ⟨G, e1, e2, e3.below hb e3.lt⟩
theorem S13.bins {wy : World} {G : Nat} (h : S13 w inp iv (L 0) (L 4) (L 5) (L 6) (L 7) v0 v4 v5 v6 v7 wx) (h4 : L 4 = false) (hG : wx.heap.size ≤ G) (hm : MapIs kW wy G binL) (hb : Below wx.heap.size wx wy) :
    S13 w inp iv ((fun j => L j || j == 4) 0) ((fun j => L j || j == 4) 4) ((fun j => L j || j == 4) 5) ((fun j => L j || j == 4) 6) ((fun j => L j || j == 4) 7) v0 (.map (some G)) v5 v6 v7 wy := by
  have h5 : L 5 = false := S13.no h4 fun e => (h.o5 e).2
  have h6 : L 6 = false := S13.no h5 h.o6
  have h7 : L 7 = false := S13.no h6 h.o7
  refine ⟨h.bel.trans (hb.mono h.bel.size), by simp [h5], by simp [h6], by simp [h7], fun e => ?_, fun _ => ⟨G, rfl, Nat.le_trans h.bel.size hG, hm⟩, by simp [h5], by simp [h6], by simp [h7]⟩
  obtain ⟨M, e1, e2, e3⟩ := h.m0 (by simpa using e)
  exact ⟨M, e1, e2, e3.block (hb.block M e3.lt)⟩
theorem S13.built {M G : Nat} (h : S13 w inp iv (L 0) (L 4) (L 5) (L 6) (L 7) (.slice (some ⟨M, 0, none⟩) 262144 262144) (.map (some G)) v5 v6 v7 wx) (h0 : L 0 = true) (h4 : L 4 = true) :
    S13 w inp iv ((fun j => L j || j == 5) 0) ((fun j => L j || j == 5) 4) ((fun j => L j || j == 5) 5) ((fun j => L j || j == 5) 6) ((fun j => L j || j == 5) 7) (.slice (some ⟨M, 0, none⟩) 262144 262144) (.map (some G)) (.agg (boxC M G (stZ inp fun _ => 0#32) 0 (.slice none 0 0) (.slice none 0 0) iv (.slice none 0 0))) v6 v7 wx :=
  ⟨h.bel, fun _ => by simp [h0, h4], fun _ => by simp, by simpa using h.o7, by simpa using h.m0, by simpa using h.m4, fun _ => ⟨M, G, rfl, rfl, rfl, by simp [h0], by simp [h4]⟩, by simpa using h.m6, by simpa using h.m7⟩
theorem S13.boxed {M G : Nat} (h : S13 w inp iv (L 0) (L 4) (L 5) (L 6) (L 7) v0 v4 v5 v6 v7 wx) (hi : Slc w 1 iv inp.length (wvs inp)) (hib : ∀ k, iv.ownBlock = some k → k < w.heap.size) (hL6 : L 6 = false) (h5 : L 5 = true) (hv0 : v0 = .slice (some ⟨M, 0, none⟩) 262144 262144) (hv4 : v4 = .map (some G)) :
    S13 w inp iv ((fun j => L j || j == 6) 0) ((fun j => L j || j == 6) 4) ((fun j => L j || j == 6) 5) ((fun j => L j || j == 6) 6) ((fun j => L j || j == 6) 7) v0 v4 v5 (.pointer (some ⟨wx.heap.size, 0, none⟩)) v7 (wx.alloc (.cells (boxC M G (stZ inp fun _ => 0#32) 0 (.slice none 0 0) (.slice none 0 0) iv (.slice none 0 0)) 80)) := by
  obtain ⟨M', e0, hM1, hM2⟩ := h.m0 (h.o5 h5).1
  obtain ⟨G', e4, hG1, hG2⟩ := h.m4 (h.o5 h5).2
  rw [hv0] at e0
  simp only [Value.slice.injEq, Option.some.injEq, Addr.mk.injEq, and_true] at e0
  subst e0
  rw [hv4] at e4
  simp only [Value.map.injEq, Option.some.injEq] at e4
  subst e4
  have hb : Below wx.heap.size wx (wx.alloc (.cells (boxC M G (stZ inp fun _ => 0#32) 0 (.slice none 0 0) (.slice none 0 0) iv (.slice none 0 0)) 80)) := (Below.refl _ _).alloc (Nat.le_refl _) _
  refine ⟨h.bel.trans (hb.mono h.bel.size), by simpa using h.o5, fun _ => by simp [h5], fun _ => by simp, fun _ => ⟨M, hv0, hM1, hM2.block (hb.block M hM2.lt)⟩, fun _ => ⟨G, hv4, hG1, hG2.below hb hG2.lt⟩, by simpa using h.m5, fun _ => ⟨M, G, wx.heap.size, rfl, _, _, _, _, heap_alloc_new wx _, hM2.block (hb.block M hM2.lt), ⟨rfl, .inl ⟨rfl, rfl⟩⟩, ⟨rfl, .inl ⟨rfl, rfl⟩⟩, ?_, hib, ⟨rfl, .inl ⟨rfl, rfl⟩⟩, hG2.below hb hG2.lt, h.bel.size, hM1, (fun e => by cases e), (fun e => by cases e), (fun k e => by cases e), Nat.zero_le _, Nat.zero_le _, Nat.zero_le _⟩, fun h7 => ?_⟩
  · exact (hi.below h.bel (Nat.le_refl _)).below hb (Nat.le_refl _)
  · have h7' : L 7 = true := by simpa using h7
    have := h.o7 h7'
    exact absurd hL6 (by rw [this]; simp)
theorem S13.moved (h : S13 w inp iv (L 0) (L 4) (L 5) (L 6) (L 7) v0 v4 v5 v6 v7 wx) (h6 : L 6 = true) :
    S13 w inp iv ((fun j => L j || j == 7) 0) ((fun j => L j || j == 7) 4) ((fun j => L j || j == 7) 5) ((fun j => L j || j == 7) 6) ((fun j => L j || j == 7) 7) v0 v4 v5 v6 v6 wx :=
  ⟨h.bel, by simpa using h.o5, by simpa using h.o6, fun _ => by simp [h6], by simpa using h.m0, by simpa using h.m4, by simpa using h.m5, by simpa using h.m6, fun _ => rfl⟩
end
theorem memT_zero (T : ByteArray) : memT T 0 = fun _ => 0#32 := by
  funext i
  unfold memT
  rw [if_neg (by omega)]
theorem memT_step (T : ByteArray) (k : Nat) (hk : k < T.size) : memT T (k + 1) = fun i => if i = 10000 + k then BitVec.ofNat 32 T[k].toNat else memT T k i := by
  funext i
  unfold memT
  by_cases hi : i = 10000 + k
  · subst hi
    rw [if_pos (by omega), if_pos rfl, show 10000 + k - 10000 = k by omega]
    congr 2
    rw [List.getD_eq_getElem?_getD, List.getElem?_eq_getElem (by simpa using hk)]
    rfl
  · rw [if_neg hi]
    by_cases h2 : 10000 ≤ i ∧ i < 10000 + k
    · rw [if_pos h2, if_pos (by omega)]
    · rw [if_neg h2, if_neg (by omega)]
theorem MIn.stored {w : World} {base B M G k : Nat} {s : St} (h : MIn w base B M G s k) (a : Nat) (v : W) : MIn (w.setCell ⟨M, a, none⟩ (.int .u32 (W32 v))) base B M G { s with mem := fun i => if i = a then v else s.mem i } k ∧ Mw base w (w.setCell ⟨M, a, none⟩ (.int .u32 (W32 v))) := by
  obtain ⟨dv, cv, iv, ov, h⟩ := h
  exact ⟨⟨_, _, _, _, (h.stored a v).1⟩, (h.stored a v).2⟩
theorem MIn.mfz {w : World} {base B M G k : Nat} {s : St} (h : MIn w base B M G s k) (i : Nat) : w.frozen? ⟨M, i, none⟩ = false := by obtain ⟨_, _, _, _, h⟩ := h; exact h.mem.frozen i
theorem Mw.text {base : Nat} {w w' : World} {X : Nat} {cs : Array Value} {fz : Nat × Nat} (h : Mw base w w') (hX : w.heap[X]? = some (.cells cs 42 fz)) : w'.heap[X]? = some (.cells cs 42 fz) :=
  h.block X _ hX (.inr fun ⟨c, t, f, e, ht⟩ => by
    simp only [Obj.cells.injEq] at e
    obtain ⟨-, rfl, -⟩ := e
    rcases ht with ht | ht | ht <;> exact absurd ht (by decide))
theorem row_bytes {w : World} {base : Nat} {v : Value} {l : List UInt8} (h : w.ownsRow base 5 1 v l.length (byteV l)) : (convert 23 9 v).run Tryz.prog w = .ok (.string (mkS l)) w := by
  rcases h.2 with ⟨rfl, h2⟩ | ⟨g, cap, cur, rfl, _, hh, hn, hm, hs, ht⟩
  · rw [run_convert_bytes_string w 23 9 5 none 0 0 Tryz.underlying23 Tryz.underlying5 Tryz.underlying9, List.eq_nil_of_length_eq_zero h2]
    rfl
  · refine run_convert_bytes_back w 23 9 5 ⟨g, 0, none⟩ cap l Tryz.underlying23 Tryz.underlying5 Tryz.underlying9 (fun j hj => ?_)
    rw [Addr.add_lit, World.cell?]
    simp only [hh, Nat.zero_add]
    have : (byteV l)[j]? = some (.int .u8 (l[j].toNat : Int)) := by simp [byteV, List.getElem?_map, List.getElem?_eq_getElem hj]
    rw [← ht, List.getElem?_take] at this
    split at this
    · simpa using this
    · cases this
set_option maxHeartbeats 8000000 in
theorem runBig_any {w : World} {tv iv : Value} (T : ByteArray) (inp : List W) (f : Nat) (ht : Slc w 2 tv 1 [.int .i64 10000, .string T]) (hi : Slc w 1 iv inp.length (wvs inp)) (hib : ∀ k, iv.ownBlock = some k → k < w.heap.size) (hT : T.size ≤ 1000) (hf : f ≤ 1000000) (hf0 : 0 < f) :
    Calls Tryz.prog 11 #[tv, .int .i64 10000, iv, .int .i64 f] w fun e w' => e = .returned (.agg #[.string (mkS (runT T inp f).1), .int .i64 ((runT T inp f).2.1 : Int), .int .i64 ((runT T inp f).2.2 : Int)]) ∧ Below w.heap.size w w' := by
  obtain ⟨a, cap, rfl, ht1, ht2, ht3, ht4⟩ := ht
  obtain ⟨ia, icap, rfl, hi1, hi2, hi3, hi4⟩ := hi
  rcases ht4 with ht4 | ⟨b, o, rfl, hbl, hc⟩
  · omega
  have c0 : w.cell? ⟨b, o, none⟩ = some (.int .i64 10000) := hc 0 _ rfl
  have c1 : w.cell? ⟨b, o + 1, none⟩ = some (.string T) := hc 1 _ rfl
  have HI : Keep (Slc w 1 (.slice ia inp.length icap) inp.length (wvs inp)) := ⟨⟨ia, icap, rfl, hi1, hi2, hi3, hi4⟩⟩
  have HIB := Keep.mk hib
  unfold maxLen at ht2 hi2
  clear hc hi3 hi4 hib
  have hO := heap_alloc_new w (.cells #[.string ⟨#[]⟩, .int .i64 0, .int .i64 0] 35)
  have hb1 : Below w.heap.size w (w.alloc (.cells #[.string ⟨#[]⟩, .int .i64 0, .int .i64 0] 35)) := (Below.refl _ _).alloc (Nat.le_refl _) _
  go_enter Tryz.func11, Tryz.ntmps11
  go_wp2_with fail
  have HO := Keep.mk hO
  have HB1 := Keep.mk hb1
  clear hO hb1
  generalize hw1 : (w.alloc (.cells #[.string ⟨#[]⟩, .int .i64 0, .int .i64 0] 35)) = w1 at *
  obtain ⟨O, hO⟩ : ∃ O, O = w.heap.size := ⟨_, rfl⟩
  have HOE := Keep.mk hO
  rw [← hO] at HO ⊢
  have hw1s : O < w1.heap.size := (Array.getElem?_eq_some_iff.1 HO.out).1
  have C0 : Keep (w1.cell? ⟨b, o, none⟩ = some (.int .i64 10000) ∧ w1.cell? ⟨b, o + 1, none⟩ = some (.string T) ∧ b < w1.heap.size) := ⟨(HB1.out.cell (p := ⟨b, o, none⟩) hbl).trans c0, (HB1.out.cell (p := ⟨b, o + 1, none⟩) hbl).trans c1, Nat.lt_of_lt_of_le hbl HB1.out.size⟩
  clear hw1 hO c0 c1 hw1s
  go_loopw [9, 25] (fun fits i wr => fits = .bool true ∧ (i = .int .i64 0 ∨ i = .int .i64 1) ∧ Keep (Below w1.heap.size w1 wr)) (fun _ i _ => 1 - (intOf i).toNat)
  case atStart => exact ⟨rfl, .inl rfl, ⟨Below.refl _ _⟩⟩
  case round =>
    obtain ⟨rfl, hi, HB⟩ := hrel
    rcases hi with rfl | rfl
    · have c0 := (HB.out.cell (p := ⟨b, o, none⟩) C0.out.2.2).trans C0.out.1
      have c1 := (HB.out.cell (p := ⟨b, o + 1, none⟩) C0.out.2.2).trans C0.out.2.1
      have cl : b < wr.heap.size := Nat.lt_of_lt_of_le C0.out.2.2 HB.out.size
      go_wp2_with fail
      go_roundw
      case rel => exact ⟨by rw [decide_eq_true (by omega)], .inr rfl, ⟨HB.out.alloc HB.out.size _⟩⟩
      case measure => simp [intOf]
    · have HO2 : Keep (wr.heap[O]? = some (.cells #[.string ⟨#[]⟩, .int .i64 0, .int .i64 0] 35 (0, 0))) := ⟨(HB.out.block O (Array.getElem?_eq_some_iff.1 HO.out).1).trans HO.out⟩
      have HB2 : Keep (Below O w wr) := ⟨by rw [HOE.out]; exact HB1.out.trans (HB.out.mono HB1.out.size)⟩
      have C2 : Keep (wr.cell? ⟨b, o, none⟩ = some (.int .i64 10000) ∧ wr.cell? ⟨b, o + 1, none⟩ = some (.string T) ∧ b < wr.heap.size) := ⟨(HB.out.cell (p := ⟨b, o, none⟩) C0.out.2.2).trans C0.out.1, (HB.out.cell (p := ⟨b, o + 1, none⟩) C0.out.2.2).trans C0.out.2.1, Nat.lt_of_lt_of_le C0.out.2.2 HB.out.size⟩
      have f1 : ¬ (100000000 : Int) < f := by omega
      have f2 : ¬ (f : Int) ≤ 0 := by omega
      have HI2 : Keep (Slc wr 1 (.slice ia inp.length icap) inp.length (wvs inp)) := ⟨HI.out.below (HB2.out.mono (by rw [HOE.out]; exact Nat.le_refl _)) (Nat.le_of_eq HOE.out.symm)⟩
      have HIB2 : Keep (∀ k, (Value.slice ia inp.length icap).ownBlock = some k → k < wr.heap.size) := ⟨fun k hk => Nat.lt_of_lt_of_le (HIB.out k hk) HB2.out.size⟩
      clear HB C0 HO HB1
      generalize wr = w2 at *
      go_upto_region 13 with (fail)
      rw [show decide (f = 0) = false from decide_eq_false (by omega)]
      refine wp_region_inv8 (P := Tryz.prog) (Fr := fun v0 v1 v2 v3 v4 v5 v6 v7 => { tmps := #[Value.slice (some { block := b, off := o }) 1 cap, .int .i64 10000, Value.slice ia inp.length icap, .int .i64 f, undef, undef, undef, undef, Value.pointer (some { block := O, off := 0 }), .bool true, undef, u11, v7, undef, undef, undef, undef, .int .i64 10000, .bool true, .bool true, .int .i64 10000, .bool true, .bool true, Value.slice (some { block := b, off := o }) 1 cap, .int .i64 1, .int .i64 1, .bool false, u27, u28, u29, u30, u31, u32, u33, u34, u35, u36, u37, u38, u39, u40, u41, u42, u43, u44, .bool false, .bool true, .bool false, undef, .bool false, .int .i64 f, .bool false, undef, .bool false, .int .i64 f, .bool false, undef, v0, v1, v2, v3, v4, v5, v6, undef, undef, undef, undef, undef, undef, undef, undef, undef, undef, undef, undef, undef, undef, undef, undef, undef, undef, undef, undef, undef, undef, undef, undef, undef, undef, undef, undef, undef, undef, undef, undef, undef, undef, undef, undef, undef, undef, undef, undef, undef, undef], defers := [] })
        undef undef undef undef undef undef undef undef (fun L v0 v1 v2 v3 v4 v5 v6 v7 wx => RG (es13 (.slice ia inp.length icap)) L [v0, v1, v2, v3, v4, v5, v6, v7] ∧ S13 w2 inp (.slice ia inp.length icap) (L 0) (L 4) (L 5) (L 6) (L 7) v0 v4 v5 v6 v7 wx) ?_ ?_ ?_ ?_ ?_
      · kernel_rfl
      · kernel_rfl
      · exact ⟨RG.zero (by simp [es13]), S13.start w2 inp _⟩
      · refine ⟨?_, ?_, ?_, ?_, ?_, ?_, ?_, ?_, trivial⟩
        · intro L v0 v1 v2 v3 v4 v5 v6 v7 wx hL hd hR K' hK
          rw [if_pos (by rfl)]
          obtain ⟨hR, hS⟩ := hR
          obtain ⟨cs, hmk, hcs1, hcs2⟩ := mkMem wx
          have HR := Keep.mk hR
          have HS := Keep.mk hS
          have HK := Keep.mk hK
          have HL := Keep.mk hL
          clear hd hL hR hS hK
          go_simp
          have hba : Below wx.heap.size wx (wx.alloc (.cells cs 29)) := (Below.refl _ _).alloc (Nat.le_refl _) _
          refine HK.out _ _ _ _ _ _ _ _ _ ⟨HR.out.put 0 (.slice (some ⟨wx.heap.size, 0, none⟩) 262144 262144) (by simp) (by simp [es13]), HS.out.make HL.out hcs1 hcs2⟩
        · intro L v0 v1 v2 v3 v4 v5 v6 v7 wx hL hd hR K' hK
          rw [if_pos (by rfl)]
          obtain ⟨hR, hS⟩ := hR
          have HR := Keep.mk hR
          have HS := Keep.mk hS
          have HK := Keep.mk hK
          have HL := Keep.mk hL
          clear hd hL hR hS hK
          go_simp
          exact HK.out _ _ _ _ _ _ _ _ _ ⟨HR.out.put 1 (.int .i64 10000) (by simp) (by simp [es13]), by simpa using HS.out⟩
        · intro L v0 v1 v2 v3 v4 v5 v6 v7 wx hL hd hR K' hK
          rw [if_pos (by rfl)]
          have hd' : L 1 = true := by simpa [Region.binds] using hd
          obtain ⟨hR, hS⟩ := hR
          obtain rfl := hR.at 1 (e := (.int .i64 10000)) rfl rfl hd'
          have HR := Keep.mk hR
          have HS := Keep.mk hS
          have HK := Keep.mk hK
          have HL := Keep.mk hL
          clear hd hL hR hS hK hd'
          go_simp
          exact HK.out _ _ _ _ _ _ _ _ _ ⟨HR.out.put 2 (.int .u32 10000) (by simp) (by simp [es13]), by simpa using HS.out⟩
        · intro L v0 v1 v2 v3 v4 v5 v6 v7 wx hL hd hR K' hK
          rw [if_pos (by rfl)]
          obtain ⟨hR, hS⟩ := hR
          have HR := Keep.mk hR
          have HS := Keep.mk hS
          have HK := Keep.mk hK
          have HL := Keep.mk hL
          clear hd hL hR hS hK
          go_simp
          exact HK.out _ _ _ _ _ _ _ _ _ ⟨HR.out.put 3 (.slice ia inp.length icap) (by simp) (by simp [es13]), by simpa using HS.out⟩
        · intro L v0 v1 v2 v3 v4 v5 v6 v7 wx hL hd hR K' hK
          rw [if_pos (by rfl)]
          obtain ⟨hR, hS⟩ := hR
          have HR := Keep.mk hR
          have HS := Keep.mk hS
          have HK := Keep.mk hK
          have HL := Keep.mk hL
          clear hd hL hR hS hK
          go_simp
          refine (binaries_any wx).mono ?_
          rintro _ wy ⟨G, rfl, hG, hm, hb⟩
          exact HK.out _ _ _ _ _ _ _ _ _ ⟨HR.out.put 4 (.map (some G)) (by simp) (by simp [es13]), HS.out.bins HL.out hG hm hb⟩
        · intro L v0 v1 v2 v3 v4 v5 v6 v7 wx hL hd hR K' hK
          rw [if_pos (by rfl)]
          have hd' : L 0 = true ∧ L 2 = true ∧ L 3 = true ∧ L 4 = true := by simpa [Region.binds] using hd
          obtain ⟨hR, hS⟩ := hR
          obtain rfl := hR.at 2 (e := (.int .u32 10000)) rfl rfl hd'.2.1
          obtain rfl := hR.at 3 (e := (.slice ia inp.length icap)) rfl rfl hd'.2.2.1
          obtain ⟨M, rfl, hM⟩ := hS.m0 hd'.1
          obtain ⟨G, rfl, hG⟩ := hS.m4 hd'.2.2.2
          have HM := Keep.mk hM
          have HG := Keep.mk hG
          have HD := Keep.mk hd'
          clear hM hG
          have HR := Keep.mk hR
          have HS := Keep.mk hS
          have HK := Keep.mk hK
          have HL := Keep.mk hL
          clear hd hL hR hS hK hd'
          go_simp
          exact HK.out _ _ _ _ _ _ _ _ _ ⟨HR.out.put 5 (.agg (boxC M G (stZ inp fun _ => 0#32) 0 (.slice none 0 0) (.slice none 0 0) (.slice ia inp.length icap) (.slice none 0 0))) (by simp) (by simp [es13]), HS.out.built HD.out.1 HD.out.2.2.2⟩
        · intro L v0 v1 v2 v3 v4 v5 v6 v7 wx hL hd hR K' hK
          rw [if_pos (by rfl)]
          have hd' : L 5 = true := by simpa [Region.binds] using hd
          obtain ⟨hR, hS⟩ := hR
          obtain ⟨M, G, rfl, hv0, hv4, h0, h4⟩ := hS.m5 hd'
          have HM := Keep.mk (And.intro (And.intro hv0 hv4) (And.intro h0 h4))
          clear hv0 hv4 h0 h4
          have HD := Keep.mk hd'
          unfold boxC
          have HR := Keep.mk hR
          have HS := Keep.mk hS
          have HK := Keep.mk hK
          have HL := Keep.mk hL
          clear hd hL hR hS hK hd'
          go_simp
          exact HK.out _ _ _ _ _ _ _ _ _ ⟨HR.out.put 6 (.pointer (some ⟨wx.heap.size, 0, none⟩)) (by simp) (by simp [es13]), HS.out.boxed HI2.out HIB2.out HL.out HD.out HM.out.1.1 HM.out.1.2⟩
        · intro L v0 v1 v2 v3 v4 v5 v6 v7 wx hL hd hR K' hK
          rw [if_pos (by rfl)]
          have hd' : L 6 = true ∧ L 4 = true ∧ L 0 = true ∧ L 1 = true ∧ L 2 = true ∧ L 3 = true ∧ L 4 = true ∧ L 5 = true ∧ L 6 = true := by simpa [Region.binds] using hd
          obtain ⟨hR, hS⟩ := hR
          have h6 := hS.m6 hd'.1
          obtain ⟨M, G, B, rfl, hm⟩ := h6
          have HM := Keep.mk hm
          have HD := Keep.mk hd'.1
          clear hm
          have HR := Keep.mk hR
          have HS := Keep.mk hS
          have HK := Keep.mk hK
          have HL := Keep.mk hL
          clear hd hL hR hS hK hd'
          go_simp
          exact HK.out _ _ _ _ _ _ _ _ _ ⟨HR.out.put 7 (.pointer (some ⟨B, 0, none⟩)) (by simp) (by simp [es13]), by simpa using HS.out.moved HD.out⟩
      · intro v0 v1 v2 v3 v4 v5 v6 v7 wx hR
        obtain ⟨M, G, B, rfl, hm⟩ := hR.2.m6 rfl
        obtain rfl := hR.2.m7 rfl
        have hbel := hR.2.bel
        clear hR
        have HM := Keep.mk hm
        have HBX := Keep.mk hbel
        have CX : Keep (wx.cell? ⟨b, o, none⟩ = some (.int .i64 10000) ∧ wx.cell? ⟨b, o + 1, none⟩ = some (.string T) ∧ b < wx.heap.size ∧ b < w2.heap.size) := ⟨(hbel.cell (p := ⟨b, o, none⟩) C2.out.2.2).trans C2.out.1, (hbel.cell (p := ⟨b, o + 1, none⟩) C2.out.2.2).trans C2.out.2.1, Nat.lt_of_lt_of_le C2.out.2.2 hbel.size, C2.out.2.2⟩
        clear hm hbel f1 f2
        go_wp2_with fail
        go_loopw [66] (fun i wr => ∃ n : Nat, ((i = .int .i64 0 ∧ n = 0) ∨ (i = .int .i64 1 ∧ n = T.size)) ∧ Keep (MIn wr w2.heap.size B M G (stZ inp (memT T n)) 0) ∧ Keep (Mw w2.heap.size wx wr)) (fun i _ => 1 - (intOf i).toNat)
        case atStart => exact ⟨0, .inl ⟨rfl, rfl⟩, ⟨by rw [memT_zero]; exact HM.out⟩, ⟨Mw.refl _ _⟩⟩
        case round =>
          obtain ⟨n, hn, HMr, HWr⟩ := hrel
          rcases hn with ⟨rfl, rfl⟩ | ⟨rfl, rfl⟩
          · have hbw := HWr.out.below HBX.out.size
            have c0 := (hbw.cell (p := ⟨b, o, none⟩) CX.out.2.2.2).trans CX.out.1
            have c1 := (hbw.cell (p := ⟨b, o + 1, none⟩) CX.out.2.2.2).trans CX.out.2.1
            have cl : b < wr.heap.size := Nat.lt_of_lt_of_le CX.out.2.2.1 hbw.size
            clear hbw
            have hX := heap_alloc_new wr (.cells #[.int .i64 10000, .string T] 42)
            have hbx : Below wr.heap.size wr (wr.alloc (.cells #[.int .i64 10000, .string T] 42)) := (Below.refl _ _).alloc (Nat.le_refl _) _
            go_upto_region 17 with (fail)
            have HX := Keep.mk hX
            have HWA := Keep.mk (HWr.out.trans (Mw.of_below hbx))
            have HMA : Keep (MIn (wr.alloc (.cells #[.int .i64 10000, .string T] 42)) w2.heap.size B M G (stZ inp (memT T 0)) 0) := ⟨HMr.out.below hbx⟩
            clear hX hbx c0 c1 cl HMr
            generalize (wr.alloc (.cells #[.int .i64 10000, .string T] 42)) = w3 at *
            generalize wr.heap.size = X at *
            clear HWr
            have x1 : w3.cell? ⟨X, 1, none⟩ = some (.string T) := by simp [World.cell?, HX.out]
            have xl : X < w3.heap.size := (Array.getElem?_eq_some_iff.1 HX.out).1
            go_wp2_with fail
            clear x1 xl
            go_loopw [73, 15] (fun i _ wr => ∃ k : Nat, i = .int .i64 (k : Int) ∧ k ≤ T.size ∧ Keep (MIn wr w2.heap.size B M G (stZ inp (memT T k)) 0) ∧ Keep (Mw w2.heap.size w3 wr)) (fun i _ _ => T.size - (intOf i).toNat)
            case atStart => exact ⟨0, rfl, Nat.zero_le _, HMA, ⟨Mw.refl _ _⟩⟩
            case round =>
              obtain ⟨k, rfl, hk, HMk, HWk⟩ := hrel
              by_cases hkT : k < T.size
              · have hXk := HWk.out.text HX.out
                have x0 : wr.cell? ⟨X, 0, none⟩ = some (.int .i64 10000) := by simp [World.cell?, hXk]
                have x1 : wr.cell? ⟨X, 1, none⟩ = some (.string T) := by simp [World.cell?, hXk]
                have xl : X < wr.heap.size := (Array.getElem?_eq_some_iff.1 hXk).1
                have m0 := HMk.out.mem0
                have ml := HMk.out.mlt
                have bl := HMk.out.lt
                have mf := HMk.out.mfz (10000 + k)
                have mc := HMk.out.word (i := 10000 + k) (by omega)
                have hT1 : T.size ≤ 2^63-1 := by omega
                clear hXk
                go_upto_region 20 with (fail)
                go_region
                have hv : ((T[k].toNat : Int) % 4294967296) = W32 (BitVec.ofNat 32 T[k].toNat) := by
                  unfold W32
                  rw [BitVec.toNat_ofNat]
                  rfl
                rw [hv]
                have hst := HMk.out.stored (10000 + k) (BitVec.ofNat 32 T[k].toNat)
                have HMn : Keep (MIn ((wr.setCell ⟨M, 10000 + k, none⟩ (.int .u32 (W32 (BitVec.ofNat 32 T[k].toNat)))).drew) w2.heap.size B M G (stZ inp (memT T (k + 1))) 0) := ⟨by rw [memT_step T k hkT]; exact hst.1.drew⟩
                have HWn := Keep.mk (HWk.out.trans (hst.2.trans (Mw.drew _ _)))
                clear hv hst x0 x1 xl m0 ml bl mf mc HMk HWk
                generalize ((wr.setCell ⟨M, 10000 + k, none⟩ (.int .u32 (W32 (BitVec.ofNat 32 T[k].toNat)))).drew) = w4 at *
                go_wp2_with fail
                go_roundw
                case rel => exact ⟨k + 1, by push_cast; rfl, by omega, HMn, HWn⟩
                case measure => simp only [intOf]; omega
              · obtain rfl : k = T.size := by omega
                go_wp2_with fail
                go_roundw
                case rel => exact ⟨T.size, .inr ⟨rfl, rfl⟩, HMk, ⟨HWA.out.trans HWk.out⟩⟩
                case measure => simp [intOf]
          · clear HM
            have HO3 := Keep.mk ((HBX.out.block O (Array.getElem?_eq_some_iff.1 HO2.out).1).trans HO2.out)
            have HO4 := Keep.mk (HWr.out.block O _ HO3.out (.inl (Array.getElem?_eq_some_iff.1 HO2.out).1))
            have HBr := Keep.mk (HB2.out.trans ((HBX.out.trans (HWr.out.below HBX.out.size)).mono (Nat.le_of_lt (Array.getElem?_eq_some_iff.1 HO2.out).1)))
            have HOL : Keep (O < w2.heap.size) := ⟨(Array.getElem?_eq_some_iff.1 HO2.out).1⟩
            have HOW : Keep (w2.heap.size ≤ wr.heap.size) := ⟨Nat.le_trans HBX.out.size HWr.out.size⟩
            clear HO2 HO3 HBX HWr CX C2 HIB2 HI2 HI HIB
            go_wp2_with fail
            refine (run_any HMr.out f (by omega) (by intro h; cases h) rfl).mono ?_
            rintro _ w4 ⟨rfl, ⟨s', ho, hm⟩, hmw⟩
            have HM4 := Keep.mk hm
            have HR : Keep (runC f (stZ inp (memT T T.size)) 0 = runT T inp f) := ⟨rfl⟩
            rw [HR.out] at ho HM4 ⊢
            have HOU := Keep.mk ho
            have HO5 := Keep.mk (hmw.block O _ HO4.out (.inl HOL.out))
            have HB4 := Keep.mk (HBr.out.trans ((hmw.below HOW.out).mono (Nat.le_of_lt HOL.out)))
            clear hm hmw ho HO4 HBr HMr
            obtain ⟨dv, cv, iv, ov, hm⟩ := HM4.out
            obtain ⟨oa, oc, rfl⟩ := ownsRow_slice hm.out
            have hcv := row_bytes hm.drew.out
            rw [HOU.out] at hcv
            have b5 : w4.cell? ⟨B, 5, none⟩ = some (.slice oa (runT T inp f).1.length oc) := by rw [← HOU.out]; exact hm.cell 5
            have b7 : w4.cell? ⟨B, 7, none⟩ = some (.int .i64 ((runT T inp f).2.2 : Int)) := hm.cell 7
            have bl := hm.lt
            have o0 : w4.cell? ⟨O, 0, none⟩ = some (.string ⟨#[]⟩) := by simp [World.cell?, HO5.out]
            have o1 : w4.cell? ⟨O, 1, none⟩ = some (.int .i64 0) := by simp [World.cell?, HO5.out]
            have o2 : w4.cell? ⟨O, 2, none⟩ = some (.int .i64 0) := by simp [World.cell?, HO5.out]
            have z0 : w4.frozen? ⟨O, 0, none⟩ = false := by simp [World.frozen?, HO5.out]
            have z1 : w4.frozen? ⟨O, 1, none⟩ = false := by simp [World.frozen?, HO5.out]
            have z2 : w4.frozen? ⟨O, 2, none⟩ = false := by simp [World.frozen?, HO5.out]
            have zl : O < w4.heap.size := (Array.getElem?_eq_some_iff.1 HO5.out).1
            clear hm HM4
            go_upto_region 24 with (fail)
            go_region
            have h1 := heap_setCell_same w4 O 0 _ _ (.string (mkS (runT T inp f).1)) HO5.out
            have h2 := heap_setCell_same _ O 1 _ _ (.int .i64 ((runT T inp f).2.1 : Int)) h1
            have h3 := heap_setCell_same _ O 2 _ _ (.int .i64 ((runT T inp f).2.2 : Int)) h2
            have HBF := Keep.mk (((HB4.out.setCell (p := ⟨O, 0, none⟩) (Nat.le_refl _) (.string (mkS (runT T inp f).1))).setCell (p := ⟨O, 1, none⟩) (Nat.le_refl _) (.int .i64 ((runT T inp f).2.1 : Int))).setCell (p := ⟨O, 2, none⟩) (Nat.le_refl _) (.int .i64 ((runT T inp f).2.2 : Int))).drew
            have H3 : Keep (((((w4.setCell ⟨O, 0, none⟩ (.string (mkS (runT T inp f).1))).setCell ⟨O, 1, none⟩ (.int .i64 ((runT T inp f).2.1 : Int))).setCell ⟨O, 2, none⟩ (.int .i64 ((runT T inp f).2.2 : Int))).drew).heap[O]? = some (.cells #[.string (mkS (runT T inp f).1), .int .i64 ((runT T inp f).2.1 : Int), .int .i64 ((runT T inp f).2.2 : Int)] 35 (0, 0))) := ⟨h3⟩
            clear h1 h2 h3 o0 o1 o2 z0 z1 z2 zl b5 b7 bl hcv HO5 HB4 HOU HR
            generalize ((((w4.setCell ⟨O, 0, none⟩ (.string (mkS (runT T inp f).1))).setCell ⟨O, 1, none⟩ (.int .i64 ((runT T inp f).2.1 : Int))).setCell ⟨O, 2, none⟩ (.int .i64 ((runT T inp f).2.2 : Int))).drew) = wf at *
            have c0 : wf.cell? ⟨O, 0, none⟩ = some (.string (mkS (runT T inp f).1)) := by simp [World.cell?, H3.out]
            have c1 : wf.cell? ⟨O, 1, none⟩ = some (.int .i64 ((runT T inp f).2.1 : Int)) := by simp [World.cell?, H3.out]
            have c2 : wf.cell? ⟨O, 2, none⟩ = some (.int .i64 ((runT T inp f).2.2 : Int)) := by simp [World.cell?, H3.out]
            go_wp2_with fail
            refine bodyPost_ret (v := (.agg #[.string (mkS (runT T inp f).1), .int .i64 ((runT T inp f).2.1 : Int), .int .i64 ((runT T inp f).2.2 : Int)])) (by simp [results, Tryz.results11, go_sem, c0, c1, c2]) rfl ?_
            exact ⟨rfl, by rw [← HOE.out]; exact HBF.out⟩
end Go.Proofs.YtojgopbaiflfgaaGreatDoor
