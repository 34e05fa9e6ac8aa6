/- The statements' own helper stored. Condition: bounds. -/
import Derived.Test.YtomlknjpaielgaaStInv
import Derived.Deep.DeepCutAuto
import Derived.Deep.CutBlock
import Derived.Outline
namespace Go.Proofs.Ytomlknjpaielgaa
set_option maxRecDepth 100000
open Go.RowKit Go.Shelf Go.Proofs.Ytomlknjpaielgaa.Store

def StI (w : World) (p : SSt) (wr : World) (cv sv xv : Value) (us : List Value) : Prop := StInv w p.cs p.ses p.st p.streams p.exts wr cv sv xv us
theorem storedK_streams (f : Nat) (l : List ByteArray) : ∀ k, (storedK f l k).streams.length ≤ k
  | 0 => Nat.le_refl _
  | k + 1 => by
    have ih := storedK_streams f l k
    rw [storedK]
    show (if k = f then (storedK f l k).turn else storedK f l k).streams.length ≤ _
    split
    · show ((storedK f l k).streams ++ [_]).length ≤ _
      rw [List.length_append, List.length_singleton]; omega
    · omega
section
variable {w5 wx w' : World} {a1 a2 a3 a4 : Addr} {v1 v2 v3 v4 : Value}
theorem held4 (l1 : a1.block < w5.heap.size) (l2 : a2.block < w5.heap.size) (l3 : a3.block < w5.heap.size) (l4 : a4.block < w5.heap.size) (hb : Below wx.heap.size wx w')
    (h : ((wx.cell? a1 = some v1 ∧ wx.cell? a2 = some v2 ∧ wx.cell? a3 = some v3) ∧ wx.cell? a4 = some v4) ∧ Below w5.heap.size w5 wx) :
    ((w'.cell? a1 = some v1 ∧ w'.cell? a2 = some v2 ∧ w'.cell? a3 = some v3) ∧ w'.cell? a4 = some v4) ∧ Below w5.heap.size w5 w' := by
  have hs := h.2.size
  exact ⟨⟨⟨(hb.cell (by omega)).trans h.1.1.1, (hb.cell (by omega)).trans h.1.1.2.1, (hb.cell (by omega)).trans h.1.1.2.2⟩, (hb.cell (by omega)).trans h.1.2⟩, h.2.trans (hb.mono hs)⟩
theorem held4_start (h : ((wx.cell? a1 = some v1 ∧ wx.cell? a2 = some v2 ∧ wx.cell? a3 = some v3) ∧ wx.cell? a4 = some v4) ∧ Below w5.heap.size w5 wx) :
    ((wx.drew.cell? a1 = some v1 ∧ wx.drew.cell? a2 = some v2 ∧ wx.drew.cell? a3 = some v3) ∧ wx.drew.cell? a4 = some v4) ∧ Below w5.heap.size w5 wx.drew := ⟨h.1, h.2.drew⟩
theorem held4_alloc {o : Obj} (l1 : a1.block < w5.heap.size) (l2 : a2.block < w5.heap.size) (l3 : a3.block < w5.heap.size) (l4 : a4.block < w5.heap.size)
    (h : ((wx.cell? a1 = some v1 ∧ wx.cell? a2 = some v2 ∧ wx.cell? a3 = some v3) ∧ wx.cell? a4 = some v4) ∧ Below w5.heap.size w5 wx) :
    (((wx.alloc o).cell? a1 = some v1 ∧ (wx.alloc o).cell? a2 = some v2 ∧ (wx.alloc o).cell? a3 = some v3) ∧ (wx.alloc o).cell? a4 = some v4) ∧ Below w5.heap.size w5 (wx.alloc o) :=
  held4 l1 l2 l3 l4 ((Below.refl _ _).alloc (Nat.le_refl _) o) h
theorem held4_allocd {o : Obj} (l1 : a1.block < w5.heap.size) (l2 : a2.block < w5.heap.size) (l3 : a3.block < w5.heap.size) (l4 : a4.block < w5.heap.size)
    (h : ((wx.drew.cell? a1 = some v1 ∧ wx.drew.cell? a2 = some v2 ∧ wx.drew.cell? a3 = some v3) ∧ wx.drew.cell? a4 = some v4) ∧ Below w5.heap.size w5 wx.drew) :
    (((wx.alloc o).drew.cell? a1 = some v1 ∧ (wx.alloc o).drew.cell? a2 = some v2 ∧ (wx.alloc o).drew.cell? a3 = some v3) ∧ (wx.alloc o).drew.cell? a4 = some v4) ∧ Below w5.heap.size w5 (wx.alloc o).drew :=
  have h2 := held4_alloc (o := o) l1 l2 l3 l4 h
  ⟨h2.1, ⟨h2.2.os, h2.2.tape, h2.2.output, h2.2.size, h2.2.block⟩⟩
theorem held4_re {o o' : Obj} (l1 : a1.block < w5.heap.size) (l2 : a2.block < w5.heap.size) (l3 : a3.block < w5.heap.size) (l4 : a4.block < w5.heap.size) (hx : w5.heap.size ≤ wx.heap.size)
    (h : (((wx.alloc o).cell? a1 = some v1 ∧ (wx.alloc o).cell? a2 = some v2 ∧ (wx.alloc o).cell? a3 = some v3) ∧ (wx.alloc o).cell? a4 = some v4) ∧ Below w5.heap.size w5 (wx.alloc o)) :
    (((wx.alloc o').cell? a1 = some v1 ∧ (wx.alloc o').cell? a2 = some v2 ∧ (wx.alloc o').cell? a3 = some v3) ∧ (wx.alloc o').cell? a4 = some v4) ∧ Below w5.heap.size w5 (wx.alloc o') := by
  have hb : Below w5.heap.size (wx.alloc o) (wx.alloc o') := ⟨rfl, rfl, rfl, by simp, fun k hk => (Below.heap_alloc wx o' k (by omega)).trans (Below.heap_alloc wx o k (by omega)).symm⟩
  exact ⟨⟨⟨(hb.cell l1).trans h.1.1.1, (hb.cell l2).trans h.1.1.2.1, (hb.cell l3).trans h.1.1.2.2⟩, (hb.cell l4).trans h.1.2⟩, h.2.trans hb⟩
theorem held4_set {x y z : Value} (l1 : a1.block < w5.heap.size) (l2 : a2.block < w5.heap.size) (l3 : a3.block < w5.heap.size) (l4 : a4.block < w5.heap.size)
    (h : ((wx.cell? a1 = some v1 ∧ wx.cell? a2 = some v2 ∧ wx.cell? a3 = some v3) ∧ wx.cell? a4 = some v4) ∧ Below w5.heap.size w5 wx) :
    (((((wx.setCell ⟨w5.heap.size, 0, none⟩ x).setCell ⟨w5.heap.size, 1, none⟩ y).setCell ⟨w5.heap.size, 2, none⟩ z).cell? a1 = some v1 ∧ (((wx.setCell ⟨w5.heap.size, 0, none⟩ x).setCell ⟨w5.heap.size, 1, none⟩ y).setCell ⟨w5.heap.size, 2, none⟩ z).cell? a2 = some v2 ∧
      (((wx.setCell ⟨w5.heap.size, 0, none⟩ x).setCell ⟨w5.heap.size, 1, none⟩ y).setCell ⟨w5.heap.size, 2, none⟩ z).cell? a3 = some v3) ∧ (((wx.setCell ⟨w5.heap.size, 0, none⟩ x).setCell ⟨w5.heap.size, 1, none⟩ y).setCell ⟨w5.heap.size, 2, none⟩ z).cell? a4 = some v4) ∧
      Below w5.heap.size w5 (((wx.setCell ⟨w5.heap.size, 0, none⟩ x).setCell ⟨w5.heap.size, 1, none⟩ y).setCell ⟨w5.heap.size, 2, none⟩ z) := by
  have hb : Below w5.heap.size wx (((wx.setCell ⟨w5.heap.size, 0, none⟩ x).setCell ⟨w5.heap.size, 1, none⟩ y).setCell ⟨w5.heap.size, 2, none⟩ z) :=
    (((Below.refl _ wx).setCell (p := ⟨w5.heap.size, 0, none⟩) (Nat.le_refl _) _).setCell (p := ⟨w5.heap.size, 1, none⟩) (Nat.le_refl _) _).setCell (p := ⟨w5.heap.size, 2, none⟩) (Nat.le_refl _) _
  exact ⟨⟨⟨(hb.cell l1).trans h.1.1.1, (hb.cell l2).trans h.1.1.2.1, (hb.cell l3).trans h.1.1.2.2⟩, (hb.cell l4).trans h.1.2⟩, h.2.trans hb⟩
end
theorem put_more {w5 wx : World} {v : Value} {ses : Int} {st c : ByteArray} {r : Acc} (h : Calls Try.prog 13 #[.agg #[v, .int .i64 ses, .string st], .string c] wx fun e w' => ∃ cv ev, e = .returned (.tuple #[.agg #[cv, .int .i64 ses, .string r.2.1], ev, .int .i64 0]) ∧
      OwnChks wx.heap.size w' cv r.1 ∧ OwnExts wx.heap.size w' ev r.2.2 ∧ Below wx.heap.size wx w') (hz : w5.heap.size ≤ wx.heap.size) :
    Calls Try.prog 13 #[.agg #[v, .int .i64 ses, .string st], .string c] wx fun e w' => ∃ a4 n4 c4 e4 m4 d4, e = .returned (.tuple #[.agg #[.slice a4 n4 c4, .int .i64 ses, .string r.2.1], .slice e4 m4 d4, .int .i64 0]) ∧
      OwnChks wx.heap.size w' (.slice a4 n4 c4) r.1 ∧ OwnExts wx.heap.size w' (.slice e4 m4 d4) r.2.2 ∧ Below wx.heap.size wx w' ∧ w5.heap.size ≤ w'.heap.size :=
  h.mono fun _ _ ⟨cv, ev, h1, h2, h3, h4⟩ => by
    obtain ⟨a4, c4, rfl⟩ := ownsRow_slice h2
    obtain ⟨e4, d4, rfl⟩ := ownsRow_slice h3
    exact ⟨_, _, _, _, _, _, h1, h2, h3, h4, Nat.le_trans hz h4.size⟩
theorem Try.infoExts : (Try.prog.info? 31).map (fun i => (i.zero, i.size, i.bytes)) = some (some (.slice none 0 0), 1, 24) := by kernel_rfl
theorem wp_append_slc {P : Program} {o : Oper} {a : Act} {w : World} {K : Act → World → Prop} {Q : Exit → Act → World → Prop} (s x : Operand) (t : TypeId)
    (ho : o.op = .call { callee := .builtin .append, args := #[s, x], argTypes := #[t, t] })
    (base : Nat) (e : TypeId) (i : TypeInfo) (z : Value) (size bytes : Nat) (ht : P.underlying t = some (.slice e)) (hi : P.info? e = some i) (hz : i.zero = some z)
    (hsize : i.size = size) (hby : i.bytes = bytes) (hzs : z.cells.size = size) (hsz : 0 < size)
    (v : Value) (n : Nat) (xs : List Value) (hs : a.eval s = v) (hown : w.ownsRow base e size v n xs) (u : Value) (m : Nat) (news : List Value) (hx : a.eval x = u) (hu : Slc w size u m news) (h1 : ∀ x ∈ news, x.oneCell' = true)
    (h63 : n + m ≤ maxLen) (hbytes : (n + m) * bytes ≤ 140737488355328) (hbase : base ≤ w.heap.size)
    (h : ∀ v' w', w'.ownsRow base e size v' (n + m) (xs ++ news) → w.grownBy w' v.ownBlock → (v'.ownBlock = v.ownBlock ∨ v'.ownBlock = some w.heap.size) → K (a.put o.dst v') w') :
    Oper.wp P o a w K Q := by
  obtain ⟨v', w', hrun, h2, h3, h4⟩ := run_append_slc (P := P) (w := w) base t o.type e i z size bytes ht hi hz hsize hby hzs hsz v n xs hown u m news hu h1 h63 hbytes hbase
  unfold Oper.wp execOp
  simp only [ho, resolve, invoke, builtin, Sem.run_bind, Sem.run_pure, Result.andThen_ok, List.map_toArray, List.map_cons, List.map_nil, hs, hx, hrun]
  exact h v' w' h2 h3 h4
theorem stored_append {w w7 w8 : World} {q : SSt} {cv2 u9 u10 v8 c5 u : Value} {us : List Value} {G : Nat} {ys : List Value} {cs5 : List Chk} {es : List Ext} (h : StI w q w7 cv2 u9 u10 us) (hG : Arr w7 G 27 ys) (hc : OwnChks w.heap.size w7 c5 cs5) (he : OwnExts w.heap.size w7 u es)
    (hown : w8.ownsRow w.heap.size 31 1 v8 (us.length + 1) (us ++ [u])) (hg : w7.grownBy w8 u10.ownBlock) :
    StInv w q.cs q.ses q.st q.streams (q.exts ++ [es]) w8 cv2 u9 v8 (us ++ [u]) ∧ Arr w8 G 27 ys ∧ OwnChks w.heap.size w8 c5 cs5 := by
  have ho := OnlyT.grown (OnlyT.refl [31] w7) h.row hg (by simp)
  exact ⟨StInv.extended h (by rw [List.length_append, List.length_singleton]; exact hown) hg he, ho.arr hG (by decide), ho.row hc (by decide)⟩
theorem stored_end {w w8 : World} {cs : List Chk} {ses : Int} {st : ByteArray} {streams : List ByteArray} {exts : List (List Ext)} {cv sv xv : Value} {us : List Value} (h : StInv w cs ses st streams exts w8 cv sv xv us) :
    Arr (((w8.setCell ⟨w.heap.size, 0, none⟩ cv).setCell ⟨w.heap.size, 1, none⟩ (.int .i64 ses)).setCell ⟨w.heap.size, 2, none⟩ (.string st)) w.heap.size 27 (storeCells cv ses st) ∧
      OwnChks w.heap.size (((w8.setCell ⟨w.heap.size, 0, none⟩ cv).setCell ⟨w.heap.size, 1, none⟩ (.int .i64 ses)).setCell ⟨w.heap.size, 2, none⟩ (.string st)) cv cs ∧
      OwnStrs w.heap.size (((w8.setCell ⟨w.heap.size, 0, none⟩ cv).setCell ⟨w.heap.size, 1, none⟩ (.int .i64 ses)).setCell ⟨w.heap.size, 2, none⟩ (.string st)) sv streams ∧
      World.ownsRow (((w8.setCell ⟨w.heap.size, 0, none⟩ cv).setCell ⟨w.heap.size, 1, none⟩ (.int .i64 ses)).setCell ⟨w.heap.size, 2, none⟩ (.string st)) w.heap.size 31 1 xv us.length us ∧
      ExtRows w.heap.size (((w8.setCell ⟨w.heap.size, 0, none⟩ cv).setCell ⟨w.heap.size, 1, none⟩ (.int .i64 ses)).setCell ⟨w.heap.size, 2, none⟩ (.string st)) us exts ∧
      Below w.heap.size w (((w8.setCell ⟨w.heap.size, 0, none⟩ cv).setCell ⟨w.heap.size, 1, none⟩ (.int .i64 ses)).setCell ⟨w.heap.size, 2, none⟩ (.string st)) := by
  obtain ⟨h1, h2⟩ := store_filled (a := cv) (b := ses) (c := st) h.res
  exact ⟨h1, h2.row h.chk (by decide), h2.row h.str (by decide), h2.row h.row (by decide), h.ext.only h2 (by decide),
    ((h.bel.setCell (p := ⟨w.heap.size, 0, none⟩) (Nat.le_refl _) _).setCell (p := ⟨w.heap.size, 1, none⟩) (Nat.le_refl _) _).setCell (p := ⟨w.heap.size, 2, none⟩) (Nat.le_refl _) _⟩
def TurnDone (w : World) (p : SSt) (v9 s10 : Value) (us : List Value) (wx : World) : Prop := ∃ cv, StI w p wx cv v9 s10 us
theorem stI_zero (w : World) : StI w SSt.zero ((((w.alloc (.cells #[.slice none 0 0, .int .i64 0, .string ⟨#[]⟩] 27)).alloc (.cells #[.slice none 0 0, .int .i64 1, .string ⟨#[]⟩] 27)).alloc (.cells #[] 9)).alloc (.cells #[] 31))
      (.slice none 0 0) (.slice (some ⟨w.heap.size + 1 + 1, 0, none⟩) 0 0) (.slice (some ⟨w.heap.size + 1 + 1 + 1, 0, none⟩) 0 0) [] := by
  have e1 : (w.alloc (.cells #[.slice none 0 0, .int .i64 0, .string ⟨#[]⟩] 27)).heap.size = w.heap.size + 1 := World.size_alloc ..
  have e2 : ((w.alloc (.cells #[.slice none 0 0, .int .i64 0, .string ⟨#[]⟩] 27)).alloc (.cells #[.slice none 0 0, .int .i64 1, .string ⟨#[]⟩] 27)).heap.size = w.heap.size + 1 + 1 := by rw [World.size_alloc, e1]
  have e3 : (((w.alloc (.cells #[.slice none 0 0, .int .i64 0, .string ⟨#[]⟩] 27)).alloc (.cells #[.slice none 0 0, .int .i64 1, .string ⟨#[]⟩] 27)).alloc (.cells #[] 9)).heap.size = w.heap.size + 1 + 1 + 1 := by rw [World.size_alloc, e2]
  have a1 := Arr.new w 27 (storeCells (.slice none 0 0) 0 ⟨#[]⟩)
  have a2 := Arr.new (w.alloc (.cells #[.slice none 0 0, .int .i64 0, .string ⟨#[]⟩] 27)) 27 (storeCells (.slice none 0 0) 1 ⟨#[]⟩)
  rw [e1] at a2
  have r3 := World.ownsRow_made (base := w.heap.size) (e := 9) (size := 1) ((w.alloc (.cells #[.slice none 0 0, .int .i64 0, .string ⟨#[]⟩] 27)).alloc (.cells #[.slice none 0 0, .int .i64 1, .string ⟨#[]⟩] 27)) #[] 0 (by omega) (by decide) rfl
  rw [e2] at r3
  have r4 := World.ownsRow_made (base := w.heap.size) (e := 31) (size := 1) (((w.alloc (.cells #[.slice none 0 0, .int .i64 0, .string ⟨#[]⟩] 27)).alloc (.cells #[.slice none 0 0, .int .i64 1, .string ⟨#[]⟩] 27)).alloc (.cells #[] 9)) #[] 0 (by omega) (by decide) rfl
  rw [e3] at r4
  exact ⟨((a1.alloc _).alloc _).alloc _, (a2.alloc _).alloc _, World.ownsRow_nil _ _ _ _, World.ownsRow.alloc r3 _, r4, ⟨rfl, fun i e h => by simp [SSt.zero] at h⟩,
    ((((Below.refl _ _).alloc (Nat.le_refl _) _).alloc (by omega) _).alloc (by omega) _).alloc (by omega) _⟩

/-- What stands behind Put's statement. -/
def PutDone (w : World) (p : SSt) (c : ByteArray) (cv sv xv : Value) (us : List Value) (v14 v15 v16 : Value) (wx : World) : Prop :=
  ∃ G cv2 ev, v14 = .pointer (some ⟨G, 0, none⟩) ∧ v15 = ev ∧ v16 = .int .i64 0 ∧ w.heap.size + 2 ≤ G ∧ StInv w p.cs p.ses p.st p.streams p.exts wx cv sv xv us ∧
    Arr wx G 27 (storeCells cv2 p.ses (putAll p.ses p.cs p.st c).2.1) ∧ OwnChks w.heap.size wx cv2 (putAll p.ses p.cs p.st c).1 ∧ OwnExts w.heap.size wx ev (putAll p.ses p.cs p.st c).2.2

set_option maxHeartbeats 8000000 in
theorem stored_any {w : World} {v : Value} {l : List ByteArray} {f : Nat} (hS : Strs w v l) (hsz : ∀ s ∈ l, s.size ≤ 600) (htot : bytesS l + l.length ≤ 1200) :
    Calls Try.prog 17 #[v, .int .i64 f] w fun e w' => ∃ cv sv xv us, e = .returned (.tuple #[.agg #[cv, .int .i64 (storedK f l l.length).ses, .string (storedK f l l.length).st], sv, xv, .bool true]) ∧
      OwnChks w.heap.size w' cv (storedK f l l.length).cs ∧ OwnStrs w.heap.size w' sv ((storedK f l l.length).streams ++ [(storedK f l l.length).st]) ∧
      w'.ownsRow w.heap.size 31 1 xv us.length us ∧ ExtRows w.heap.size w' us (storedK f l l.length).exts ∧ Below w.heap.size w w' := by
  obtain ⟨a, cap, rfl, h1, h2, h3⟩ := hS.at
  have H3 := Keep.mk h3
  have HZ := Keep.mk hsz
  clear hS h3 hsz
  unfold maxLen at h2
  have hll : l.length ≤ 1200 := by omega
  go_enter Try.func17, Try.ntmps17
  go_wp2_with fail
  have H0 : Keep (StI w SSt.zero ((((w.alloc (.cells #[.slice none 0 0, .int .i64 0, .string ⟨#[]⟩] 27)).alloc (.cells #[.slice none 0 0, .int .i64 1, .string ⟨#[]⟩] 27)).alloc (.cells #[] 9)).alloc (.cells #[] 31))
      (.slice none 0 0) (.slice (some ⟨w.heap.size + 1 + 1, 0, none⟩) 0 0) (.slice (some ⟨w.heap.size + 1 + 1 + 1, 0, none⟩) 0 0) []) := ⟨stI_zero w⟩
  generalize ((((w.alloc (.cells #[.slice none 0 0, .int .i64 0, .string ⟨#[]⟩] 27)).alloc (.cells #[.slice none 0 0, .int .i64 1, .string ⟨#[]⟩] 27)).alloc (.cells #[] 9)).alloc (.cells #[] 31)) = w0 at *
  go_loopw [22, 9, 10] (fun i s9 s10 wr => ∃ (k : Nat) (cv : Value) (us : List Value), k ≤ l.length ∧ i = .int .i64 k ∧ Keep (StI w (storedK f l k) wr cv s9 s10 us)) (fun i _ _ _ => l.length - (intOf i).toNat)
  case atStart => exact ⟨0, _, _, Nat.zero_le _, rfl, H0⟩
  case round =>
    obtain ⟨k, cv, us, hk, rfl, HI⟩ := hrel
    clear H0
    by_cases hlt : k < l.length
    · have k0 : (0 : Int) ≤ k := by omega
      have k1 : (k : Int) < l.length := by omega
      have hkf : ((k : Int) == (f : Int)) = decide (k = f) := by rw [Bool.eq_iff_iff]; simp; omega
      have hses : k = f → (storedK f l k).ses = 1 := fun h => by rw [storedK_ses, if_neg (by omega)]
      have hfit : Fit (bytesS (l.drop k) + 0) ((storedK f l k).cs, (storedK f l k).st, []) := storedK_fit (by omega) k hk
      have hstr := storedK_streams f l k
      have HPE := Keep.mk (storedK_exts f l k)
      have HPK := Keep.mk (show storedK f l (k + 1) = (if k = f then (storedK f l k).turn else storedK f l k).put (l.getD k ⟨#[]⟩) from rfl)
      have HFT := Keep.mk hfit
      have HSE := Keep.mk hses
      have HS2 : Keep ((storedK f l k).ses = 1 ∨ (storedK f l k).ses = 2) := ⟨by rw [storedK_ses]; split <;> simp⟩
      clear hfit hses
      generalize storedK f l k = p at *
      go_upto_if 27 with fail
      go_cut [9] from 27 to 41 (fun v9 wx => TurnDone w (if k = f then p.turn else p) v9 u10 us wx)
      case first =>
        by_cases hkf2 : k = f
        · have hs1 := HSE.out hkf2
          have hcl : p.cs.length ≤ 1000000 := by have := HFT.out.few; simp only at this; omega
          have hkt : decide (k = f) = true := decide_eq_true hkf2
          have HKF := Keep.mk hkf2
          clear hkf2
          rw [hkt]
          have c2 := HI.out.box.cell 2
          simp only [storeCells, List.getElem?_cons_zero, List.getElem?_cons_succ] at c2
          have hbw := HI.out.bel.size
          go_upto_region 9 with (at_builtin; refine wpList_append_strs2 (o := ⟨some 32, _, _, _, _, _⟩) rfl _ _ rfl (base := w.heap.size) rfl (OwnStrs.alloc HI.out.str _) rfl (Strs.made _ [p.st] 9 (show (1 : Nat) ≤ maxLen by decide)) (by show p.streams.length + 1 ≤ _; omega) (by simp; omega) ?_; intro v5 w5 hO5 hg5; have HI5 := Keep.mk ((HI.out.alloc _).streamed hO5 hg5); clear hO5 hg5)
          have c0 := HI5.out.box.cell 0
          have c1 := HI5.out.box.cell 1
          have c2' := HI5.out.box.cell 2
          simp only [storeCells, List.getElem?_cons_zero, List.getElem?_cons_succ] at c0 c1 c2'
          rw [hs1] at c1
          clear c2 hbw HI
          go_wp2_with fail
          refine (begin_any HI5.out.chk.chks hcl (by decide) (by decide) (by decide)).mono ?_
          rintro e w6 ⟨ca, cc, rfl, hch, hb6⟩
          have HI6 := Keep.mk (HI5.out.below hb6)
          have HC6 := Keep.mk (hch.lower HI5.out.bel.size)
          clear hch hb6 c0 c1 c2' HI5
          go_upto_region 12 with (fail)
          have HI7 := Keep.mk ((HI6.out.boxed 2 ⟨#[]⟩ HC6.out).alloc (.cells #[.slice ca p.cs.length cc, .int .i64 2, .string ⟨#[]⟩] 27))
          have d0 := HI6.out.box.cell 0
          have d1 := HI6.out.box.cell 1
          have d2 := HI6.out.box.cell 2
          have df0 := HI6.out.box.frozen 0
          have df1 := HI6.out.box.frozen 1
          have df2 := HI6.out.box.frozen 2
          have dl := HI6.out.box.lt
          simp only [storeCells, List.getElem?_cons_zero, List.getElem?_cons_succ] at d0 d1 d2
          clear HI6 HC6
          go_wp2
          go_meet
          exact ⟨_, by rw [if_pos HKF.out]; exact HI7.out⟩
        · have hkt : decide (k = f) = false := decide_eq_false hkf2
          rw [hkt]
          have HKF := Keep.mk hkf2
          clear hkf2
          go_wp2
          go_meet
          refine ⟨cv, ?_⟩
          rw [if_neg HKF.out]
          exact HI.out
      case rest =>
      obtain ⟨cv2, HI2⟩ := hcut
      have HI := Keep.mk HI2
      have hx : l.getD k ⟨#[]⟩ ∈ l := by rw [List.getD_eq_getElem?_getD, List.getElem?_eq_getElem hlt]; exact List.getElem_mem hlt
      have hgx : l[k]? = some (l.getD k ⟨#[]⟩) := by rw [List.getD_eq_getElem?_getD, List.getElem?_eq_getElem hlt]; rfl
      have hxz := HZ.out _ hx
      obtain ⟨b, o, rfl, hbw, hcx⟩ := H3.out k _ hgx
      have hqf : Keep (Fit (l.getD k ⟨#[]⟩).size ((if k = f then p.turn else p).cs, (if k = f then p.turn else p).st, [])) := ⟨by
        have h1 := (HFT.out.less (m := (l.getD k ⟨#[]⟩).size) (by rw [bytesS_drop hgx]; omega))
        split
        · exact h1.empty
        · exact h1⟩
      have hqs : (if k = f then p.turn else p).ses = 1 ∨ (if k = f then p.turn else p).ses = 2 := by
        by_cases hkf2 : k = f
        · rw [if_pos hkf2]; exact .inr rfl
        · rw [if_neg hkf2]; exact HS2.out
      have hcx' := (HI2.bel.cell (p := ⟨b, o + k, none⟩) hbw).trans hcx
      have HQE : Keep ((if k = f then p.turn else p).exts.length = k) := ⟨by
        split
        · exact HPE.out
        · exact HPE.out⟩
      clear HI2 HFT HSE hx hgx hcx hkf hstr HPE
      generalize (if k = f then p.turn else p) = q at *
      generalize l.getD k ⟨#[]⟩ = x at *
      clear HS2
      generalize hwr : wc = w5 at *
      clear hwr
      have c0 := HI.out.box.cell 0
      have c1 := HI.out.box.cell 1
      have c2 := HI.out.box.cell 2
      simp only [storeCells, List.getElem?_cons_zero, List.getElem?_cons_succ] at c0 c1 c2
      go_upto_region 13 with (fail)
      have l1 := HI.out.box.lt
      have l2 : b < w5.heap.size := Nat.lt_of_lt_of_le hbw HI.out.bel.size
      go_cut [14, 15, 16] from 42 to 51 (fun v14 v15 v16 wx => PutDone w q x cv2 u9 u10 us v14 v15 v16 wx)
      case first =>
        have hq1 : 1 ≤ q.ses := by omega
        have hq2 : q.ses ≤ 255 := by omega
        have HP := fun (wx : World) (h : Below w5.heap.size w5 wx) => put_more (put_any (content := x) (ses := q.ses) (st := q.st) ((HI.out.chk.chks).below h (Nat.le_refl _)) hq1 hq2 (by omega) hqf.out) h.size
        have HFin : Keep (∀ (wx : World) (G : Nat) (cv4 ev4 : Value), Below w5.heap.size w5 wx → w5.heap.size ≤ G → Arr wx G 27 (storeCells cv4 q.ses (putAll q.ses q.cs q.st x).2.1) → OwnChks w5.heap.size wx cv4 (putAll q.ses q.cs q.st x).1 → OwnExts w5.heap.size wx ev4 (putAll q.ses q.cs q.st x).2.2 →
            PutDone w q x cv2 u9 u10 us (.pointer (some ⟨G, 0, none⟩)) ev4 (.int .i64 0) wx) := ⟨fun wx G cv4 ev4 hb hG hA hc he =>
          ⟨G, cv4, ev4, rfl, rfl, rfl, by omega, HI.out.below hb, hA, hc.lower HI.out.bel.size, he.lower HI.out.bel.size⟩⟩
        have hqs' := Keep.mk hqs
        clear hqs HI hqf
        generalize putAll q.ses q.cs q.st x = r at *
        have l1' := l1
        go_region_held3 (fun w' => ((w'.cell? ⟨w.heap.size + 1, 0, none⟩ = some cv2 ∧ w'.cell? ⟨w.heap.size + 1, 1, none⟩ = some (.int .i64 q.ses) ∧ w'.cell? ⟨w.heap.size + 1, 2, none⟩ = some (.string q.st)) ∧ w'.cell? ⟨b, o + k, none⟩ = some (.string x)) ∧ Below w5.heap.size w5 w')
          (first | with_reducible exact held4_start ⟨⟨⟨c0, c1, c2⟩, hcx'⟩, Below.refl w5.heap.size w5⟩ | with_reducible exact held4_set l1 l1 l1 l2 (by assumption) | with_reducible exact held4 l1 l1 l1 l2 hb4 (by assumption) | with_reducible exact held4_alloc l1 l1 l1 l2 (by assumption) | with_reducible exact held4_allocd l1 l1 l1 l2 (by assumption) | with_reducible exact held4_re l1 l1 l1 l2 hz4 (by assumption) | with_reducible assumption)
          ((go_at_call 13; (with_reducible refine (HP _ ?_).mono ?_); (exact And.right (by assumption)); rintro e w4 ⟨a4, n4, c4, e4, m4, d4, rfl, hcv, hev, hb4, hz4⟩; (first | (have hg4 := zero_store hb4; have g40 := hg4.cell 0; have g41 := hg4.cell 1; have g42 := hg4.cell 2; have f40 := hg4.frozen 0; have f41 := hg4.frozen 1; have f42 := hg4.frozen 2; simp only [storeCells, List.getElem?_cons_zero, List.getElem?_cons_succ] at g40 g41 g42; have hlt4 := hg4.lt) | skip)))
        · go_wp2
          go_meet
          exact HFin.out _ _ _ _ (And.right (by assumption)) hz4 (Arr.new w4 _ (storeCells (.slice a4 n4 c4) q.ses r.2.1)) (World.ownsRow.alloc hcv _) (World.ownsRow.alloc hev _)
        · go_wp2
          go_meet
          have hfl := store_filled (a := .slice a4 n4 c4) (b := q.ses) (c := r.2.1) hg4
          exact HFin.out _ _ _ _ (And.right (by assumption)) (Nat.le_refl _) hfl.1 (hfl.2.row (ownsRow_base hcv (by show w5.heap.size ≤ (w5.alloc _).heap.size; simp)) (by decide)) (hfl.2.row (ownsRow_base hev (by show w5.heap.size ≤ (w5.alloc _).heap.size; simp)) (by decide))
      case rest =>
      obtain ⟨G, cv5, ev5, rfl, hv15, rfl, hG, hSI, hGa, hGc, hGe⟩ := hcut
      subst hv15
      have HI6 := Keep.mk hSI
      have HG6 := Keep.mk (And.intro hGa (And.intro hGc hGe))
      clear hSI hGa hGc hGe HI c0 c1 c2 l1 l2 hcx' hqf
      generalize hwr6 : wc = w6 at *
      clear hwr6
      go_upto_region 16 with (fail)
      obtain ⟨ea, ec, rfl⟩ := ownsRow_slice HG6.out.2.2
      obtain ⟨ca, cc, rfl⟩ := ownsRow_slice HG6.out.2.1
      have hul : us.length ≤ 1200 := by have h1 := HI6.out.ext.1; have h2 := HQE.out; omega
      obtain ⟨i0, hi, hz0, hz1, hz2⟩ := info_parts Try.infoExts
      have g0 := HG6.out.1.cell 0
      have g1 := HG6.out.1.cell 1
      have g2 := HG6.out.1.cell 2
      have gl := HG6.out.1.lt
      simp only [storeCells, List.getElem?_cons_zero, List.getElem?_cons_succ] at g0 g1 g2
      have HI7 : Keep (StI w q (w6.alloc (.cells #[.slice ea (putAll q.ses q.cs q.st x).2.2.length ec] 31)).drew cv2 u9 u10 us) := ⟨(HI6.out.alloc _).drew⟩
      have HG7 : Keep (Arr (w6.alloc (.cells #[.slice ea (putAll q.ses q.cs q.st x).2.2.length ec] 31)).drew G 27 (storeCells (.slice ca (putAll q.ses q.cs q.st x).1.length cc) q.ses (putAll q.ses q.cs q.st x).2.1) ∧ OwnChks w.heap.size (w6.alloc (.cells #[.slice ea (putAll q.ses q.cs q.st x).2.2.length ec] 31)).drew (.slice ca (putAll q.ses q.cs q.st x).1.length cc) (putAll q.ses q.cs q.st x).1 ∧
          OwnExts w.heap.size (w6.alloc (.cells #[.slice ea (putAll q.ses q.cs q.st x).2.2.length ec] 31)).drew (.slice ea (putAll q.ses q.cs q.st x).2.2.length ec) (putAll q.ses q.cs q.st x).2.2) := ⟨(HG6.out.1.alloc _).drew, World.ownsRow.alloc HG6.out.2.1 _, World.ownsRow.alloc HG6.out.2.2 _⟩
      have HSL : Keep (Slc (w6.alloc (.cells #[.slice ea (putAll q.ses q.cs q.st x).2.2.length ec] 31)).drew 1 (.slice (some ⟨w6.heap.size, 0, none⟩) 1 1) 1 [.slice ea (putAll q.ses q.cs q.st x).2.2.length ec]) := ⟨Slc.made (w := w6) (t := 31) [.slice ea (putAll q.ses q.cs q.st x).2.2.length ec] (by decide) rfl⟩
      clear HI6 HG6
      refine wp_region_any (by kernel_rfl) ?_
      try (change wpAny _ _ _ _ _ _ _ (World.drew _))
      refine wpAny_take (i := 1) (v := ?vr1z1) rfl (by kernel_rfl) (by kernel_rfl) (by kernel_rfl) (fun _ _ _ h => h) (Or.inl ⟨by rfl, ?hr1z1⟩) ?_
      case hr1z1 => (intro w; go_simp); try with_reducible rfl
      refine wpAny_take (i := 2) (v := ?vr2z2) rfl (by kernel_rfl) (by kernel_rfl) (by kernel_rfl) (fun _ _ _ h => h) (Or.inl ⟨by rfl, ?hr2z2⟩) ?_
      case hr2z2 => (intro w; go_simp); try with_reducible rfl
      go_simp
      refine wpAny_ready (rs := [0, 3]) (by kernel_rfl) (by simp) (AllReady.cons rfl (fun K hK => ?_) (AllReady.cons rfl (fun K hK => ?_) AllReady.nil))
      · rw [if_pos (by rfl)]
        go_simp
        refine hK _ _ ?_
        clear hK K
        go_simp
        refine wpAny_ready (rs := [3]) (by kernel_rfl) (by simp) (AllReady.cons rfl (fun K hK => ?_) AllReady.nil)
        rw [if_pos (by rfl)]
        go_simp
        refine hK _ _ ?_
        clear hK K
        go_simp
        refine wpAny_ready (rs := [4]) (by kernel_rfl) (by simp) (AllReady.cons rfl (fun K hK => ?_) AllReady.nil)
        rw [if_pos (by rfl)]
        refine wp_append_slc (.tmp 56) (.tmp 58) 37 rfl w.heap.size 31 i0 (.slice none 0 0) 1 24 Try.underlying37 hi hz0 hz1 hz2 rfl (by decide) u10 us.length us rfl HI7.out.row _ 1 [.slice ea (putAll q.ses q.cs q.st x).2.2.length ec] rfl HSL.out (by simp [Value.oneCell']) (by unfold maxLen; omega) (by omega) HI7.out.bel.size ?_
        intro v8 w8 hown8 hg8 _
        refine hK _ _ ?_
        clear hK K
        have H8 := Keep.mk (stored_append HI7.out HG7.out.1 HG7.out.2.1 HG7.out.2.2 hown8 hg8)
        clear hown8 hg8
        have d0 := H8.out.1.box.cell 0
        have d1 := H8.out.1.box.cell 1
        have d2 := H8.out.1.box.cell 2
        have df0 := H8.out.1.box.frozen 0
        have df1 := H8.out.1.box.frozen 1
        have df2 := H8.out.1.box.frozen 2
        have dl := H8.out.1.box.lt
        have k0' := H8.out.2.1.cell 0
        have k1' := H8.out.2.1.cell 1
        have k2' := H8.out.2.1.cell 2
        have kl := H8.out.2.1.lt
        simp only [storeCells, List.getElem?_cons_zero, List.getElem?_cons_succ] at d0 d1 d2 k0' k1' k2'
        clear g0 g1 g2 gl
        go_simp
        refine wpAny_ready (rs := [5]) (by kernel_rfl) (by simp) (AllReady.cons rfl (fun K hK => ?_) AllReady.nil)
        rw [if_pos (by rfl)]
        go_simp
        refine hK _ _ ?_
        clear hK K
        refine wpAny_take (i := 6) (v := ?vr6z3) rfl (by kernel_rfl) (by kernel_rfl) (by kernel_rfl) (fun _ _ _ h => h) (Or.inl ⟨by rfl, ?hr6z3⟩) ?_
        case hr6z3 => (intro w; go_simp); try with_reducible rfl
        go_simp
        refine wpAny_done (by kernel_rfl) ?_ _
        clear d0 d1 d2 df0 df1 df2 dl k0' k1' k2' kl
        go_wp2
        go_roundw
        case rel => exact ⟨k + 1, _, _, by omega, by go_num, ⟨by rw [HPK.out]; exact H8.out.1.boxed q.ses (putAll q.ses q.cs q.st x).2.1 H8.out.2.2⟩⟩
        case measure => simp [intOf]; omega
      · rw [if_pos (by rfl)]
        go_simp
        refine hK _ _ ?_
        clear hK K
        go_simp
        refine wpAny_ready (rs := [0, 4]) (by kernel_rfl) (by simp) (AllReady.cons rfl (fun K hK => ?_) (AllReady.cons rfl (fun K hK => ?_) AllReady.nil))
        · rw [if_pos (by rfl)]
          go_simp
          refine hK _ _ ?_
          clear hK K
          go_simp
          refine wpAny_ready (rs := [4]) (by kernel_rfl) (by simp) (AllReady.cons rfl (fun K hK => ?_) AllReady.nil)
          rw [if_pos (by rfl)]
          refine wp_append_slc (.tmp 56) (.tmp 58) 37 rfl w.heap.size 31 i0 (.slice none 0 0) 1 24 Try.underlying37 hi hz0 hz1 hz2 rfl (by decide) u10 us.length us rfl HI7.out.row _ 1 [.slice ea (putAll q.ses q.cs q.st x).2.2.length ec] rfl HSL.out (by simp [Value.oneCell']) (by unfold maxLen; omega) (by omega) HI7.out.bel.size ?_
          intro v8 w8 hown8 hg8 _
          refine hK _ _ ?_
          clear hK K
          have H8 := Keep.mk (stored_append HI7.out HG7.out.1 HG7.out.2.1 HG7.out.2.2 hown8 hg8)
          clear hown8 hg8
          have d0 := H8.out.1.box.cell 0
          have d1 := H8.out.1.box.cell 1
          have d2 := H8.out.1.box.cell 2
          have df0 := H8.out.1.box.frozen 0
          have df1 := H8.out.1.box.frozen 1
          have df2 := H8.out.1.box.frozen 2
          have dl := H8.out.1.box.lt
          have k0' := H8.out.2.1.cell 0
          have k1' := H8.out.2.1.cell 1
          have k2' := H8.out.2.1.cell 2
          have kl := H8.out.2.1.lt
          simp only [storeCells, List.getElem?_cons_zero, List.getElem?_cons_succ] at d0 d1 d2 k0' k1' k2'
          clear g0 g1 g2 gl
          go_simp
          refine wpAny_ready (rs := [5]) (by kernel_rfl) (by simp) (AllReady.cons rfl (fun K hK => ?_) AllReady.nil)
          rw [if_pos (by rfl)]
          go_simp
          refine hK _ _ ?_
          clear hK K
          refine wpAny_take (i := 6) (v := ?vr6z4) rfl (by kernel_rfl) (by kernel_rfl) (by kernel_rfl) (fun _ _ _ h => h) (Or.inl ⟨by rfl, ?hr6z4⟩) ?_
          case hr6z4 => (intro w; go_simp); try with_reducible rfl
          go_simp
          refine wpAny_done (by kernel_rfl) ?_ _
          clear d0 d1 d2 df0 df1 df2 dl k0' k1' k2' kl
          go_wp2
          go_roundw
          case rel => exact ⟨k + 1, _, _, by omega, by go_num, ⟨by rw [HPK.out]; exact H8.out.1.boxed q.ses (putAll q.ses q.cs q.st x).2.1 H8.out.2.2⟩⟩
          case measure => simp [intOf]; omega
        · rw [if_pos (by rfl)]
          refine wp_append_slc (.tmp 56) (.tmp 58) 37 rfl w.heap.size 31 i0 (.slice none 0 0) 1 24 Try.underlying37 hi hz0 hz1 hz2 rfl (by decide) u10 us.length us rfl HI7.out.row _ 1 [.slice ea (putAll q.ses q.cs q.st x).2.2.length ec] rfl HSL.out (by simp [Value.oneCell']) (by unfold maxLen; omega) (by omega) HI7.out.bel.size ?_
          intro v8 w8 hown8 hg8 _
          refine hK _ _ ?_
          clear hK K
          have H8 := Keep.mk (stored_append HI7.out HG7.out.1 HG7.out.2.1 HG7.out.2.2 hown8 hg8)
          clear hown8 hg8
          have d0 := H8.out.1.box.cell 0
          have d1 := H8.out.1.box.cell 1
          have d2 := H8.out.1.box.cell 2
          have df0 := H8.out.1.box.frozen 0
          have df1 := H8.out.1.box.frozen 1
          have df2 := H8.out.1.box.frozen 2
          have dl := H8.out.1.box.lt
          have k0' := H8.out.2.1.cell 0
          have k1' := H8.out.2.1.cell 1
          have k2' := H8.out.2.1.cell 2
          have kl := H8.out.2.1.lt
          simp only [storeCells, List.getElem?_cons_zero, List.getElem?_cons_succ] at d0 d1 d2 k0' k1' k2'
          clear g0 g1 g2 gl
          go_simp
          refine wpAny_ready (rs := [0]) (by kernel_rfl) (by simp) (AllReady.cons rfl (fun K hK => ?_) AllReady.nil)
          rw [if_pos (by rfl)]
          go_simp
          refine hK _ _ ?_
          clear hK K
          go_simp
          refine wpAny_ready (rs := [5]) (by kernel_rfl) (by simp) (AllReady.cons rfl (fun K hK => ?_) AllReady.nil)
          rw [if_pos (by rfl)]
          go_simp
          refine hK _ _ ?_
          clear hK K
          refine wpAny_take (i := 6) (v := ?vr6z5) rfl (by kernel_rfl) (by kernel_rfl) (by kernel_rfl) (fun _ _ _ h => h) (Or.inl ⟨by rfl, ?hr6z5⟩) ?_
          case hr6z5 => (intro w; go_simp); try with_reducible rfl
          go_simp
          refine wpAny_done (by kernel_rfl) ?_ _
          clear d0 d1 d2 df0 df1 df2 dl k0' k1' k2' kl
          go_wp2
          go_roundw
          case rel => exact ⟨k + 1, _, _, by omega, by go_num, ⟨by rw [HPK.out]; exact H8.out.1.boxed q.ses (putAll q.ses q.cs q.st x).2.1 H8.out.2.2⟩⟩
          case measure => simp [intOf]; omega
    · have hkl : k = l.length := by omega
      subst hkl
      have hstr := storedK_streams f l l.length
      generalize hpp : storedK f l l.length = p at *
      have HPP := Keep.mk hpp
      clear hpp
      obtain ⟨ca, cc, rfl⟩ := ownsRow_slice HI.out.chk
      obtain ⟨i0, hi, hz0, hz1, hz2⟩ := info_parts Try.infoStrS
      have g0 := HI.out.box.cell 0
      have g1 := HI.out.box.cell 1
      have g2 := HI.out.box.cell 2
      have gl := HI.out.box.lt
      simp only [storeCells, List.getElem?_cons_zero, List.getElem?_cons_succ] at g0 g1 g2
      have HI7 : Keep (StI w p (wr.alloc (.cells #[.string p.st] 9)).drew (.slice ca p.cs.length cc) u9 u10 us) := ⟨(HI.out.alloc _).drew⟩
      have HSL : Keep (Slc (wr.alloc (.cells #[.string p.st] 9)).drew 1 (.slice (some ⟨wr.heap.size, 0, none⟩) 1 1) 1 (strCells [p.st])) := ⟨Slc.made (w := wr) (t := 9) (strCells [p.st]) (by decide) rfl⟩
      clear HI
      go_wp2_with fail
      refine wp_region_any (by kernel_rfl) ?_
      try (change wpAny _ _ _ _ _ _ _ (World.drew _))
      refine wpAny_take (i := 1) (v := ?vr1z101) rfl (by kernel_rfl) (by kernel_rfl) (by kernel_rfl) (fun _ _ _ h => h) (Or.inl ⟨by rfl, ?hr1z101⟩) ?_
      case hr1z101 => (intro w; go_simp); try with_reducible rfl
      refine wpAny_take (i := 2) (v := ?vr2z102) rfl (by kernel_rfl) (by kernel_rfl) (by kernel_rfl) (fun _ _ _ h => h) (Or.inl ⟨by rfl, ?hr2z102⟩) ?_
      case hr2z102 => (intro w; go_simp); try with_reducible rfl
      refine wpAny_take (i := 6) (v := ?vr6z103) rfl (by kernel_rfl) (by kernel_rfl) (by kernel_rfl) (fun _ _ _ h => h) (Or.inl ⟨by rfl, ?hr6z103⟩) ?_
      case hr6z103 => (intro w; go_simp); try with_reducible rfl
      go_simp
      refine wpAny_ready (rs := [0, 3]) (by kernel_rfl) (by simp) (AllReady.cons rfl (fun K hK => ?_) (AllReady.cons rfl (fun K hK => ?_) AllReady.nil))
      · rw [if_pos (by rfl)]
        go_simp
        refine hK _ _ ?_
        clear hK K
        go_simp
        refine wpAny_ready (rs := [3]) (by kernel_rfl) (by simp) (AllReady.cons rfl (fun K hK => ?_) AllReady.nil)
        rw [if_pos (by rfl)]
        go_simp
        refine hK _ _ ?_
        clear hK K
        go_simp
        refine wpAny_ready (rs := [4]) (by kernel_rfl) (by simp) (AllReady.cons rfl (fun K hK => ?_) AllReady.nil)
        rw [if_pos (by rfl)]
        go_simp
        refine hK _ _ ?_
        clear hK K
        go_simp
        refine wpAny_ready (rs := [5]) (by kernel_rfl) (by simp) (AllReady.cons rfl (fun K hK => ?_) AllReady.nil)
        rw [if_pos (by rfl)]
        refine wp_append_slc (.tmp 62) (.tmp 65) 22 rfl w.heap.size 9 i0 (.string ⟨#[]⟩) 1 16 Try.underlying22 hi hz0 hz1 hz2 rfl (by decide) u9 p.streams.length (strCells p.streams) rfl HI7.out.str _ 1 (strCells [p.st]) rfl HSL.out (by simp [strCells, Value.oneCell']) (by unfold maxLen; omega) (by omega) HI7.out.bel.size ?_
        intro v8 w8 hown8 hg8 _
        refine hK _ _ ?_
        clear hK K
        have H8 := Keep.mk (StInv.streamed HI7.out (streams' := p.streams ++ [p.st]) (by unfold OwnStrs; rw [List.length_append]; simpa [strCells] using hown8) hg8)
        clear hown8 hg8
        have d0 := H8.out.box.cell 0
        have d1 := H8.out.box.cell 1
        have d2 := H8.out.box.cell 2
        have r0 := H8.out.res.cell 0
        have r1 := H8.out.res.cell 1
        have r2 := H8.out.res.cell 2
        have df0 := H8.out.res.frozen 0
        have df1 := H8.out.res.frozen 1
        have df2 := H8.out.res.frozen 2
        have dl := H8.out.box.lt
        have rl := H8.out.res.lt
        simp only [storeCells, List.getElem?_cons_zero, List.getElem?_cons_succ] at d0 d1 d2 r0 r1 r2
        clear g0 g1 g2 gl
        go_simp
        refine wpAny_ready (rs := [7]) (by kernel_rfl) (by simp) (AllReady.cons rfl (fun K hK => ?_) AllReady.nil)
        rw [if_pos (by rfl)]
        go_simp
        refine hK _ _ ?_
        clear hK K
        go_simp
        refine wpAny_take (i := 8) (v := ?vr8z104) rfl (by kernel_rfl) (by kernel_rfl) (by kernel_rfl) (fun _ _ _ h => h) (Or.inl ⟨by rfl, ?hr8z104⟩) ?_
        case hr8z104 => (intro w; go_simp); try with_reducible rfl
        refine wpAny_take (i := 9) (v := ?vr9z105) rfl (by kernel_rfl) (by kernel_rfl) (by kernel_rfl) (fun _ _ _ h => h) (Or.inl ⟨by rfl, ?hr9z105⟩) ?_
        case hr9z105 => (intro w; go_simp); try with_reducible rfl
        refine wpAny_take (i := 10) (v := ?vr10z106) rfl (by kernel_rfl) (by kernel_rfl) (by kernel_rfl) (fun _ _ _ h => h) (Or.inl ⟨by rfl, ?hr10z106⟩) ?_
        case hr10z106 => (intro w; go_simp); try with_reducible rfl
        go_simp
        refine wpAny_done (by kernel_rfl) ?_ _
        clear d0 d1 d2 r0 r1 r2 df0 df1 df2 dl rl
        go_wp2
        have HE := Keep.mk (stored_end H8.out)
        have c0 := HE.out.1.cell 0
        have c1 := HE.out.1.cell 1
        have c2 := HE.out.1.cell 2
        simp only [storeCells, List.getElem?_cons_zero, List.getElem?_cons_succ] at c0 c1 c2
        generalize (((w8.setCell ⟨w.heap.size, 0, none⟩ (.slice ca p.cs.length cc)).setCell ⟨w.heap.size, 1, none⟩ (.int .i64 p.ses)).setCell ⟨w.heap.size, 2, none⟩ (.string p.st)) = wf at *
        refine bodyPost_ret (v := .tuple #[.agg #[.slice ca p.cs.length cc, .int .i64 p.ses, .string p.st], v8, u10, .bool true]) (by simp [results, Try.results17, go_sem, c0, c1, c2]) rfl ?_
        rw [HPP.out]; exact ⟨_, _, _, us, rfl, HE.out.2⟩
      · rw [if_pos (by rfl)]
        go_simp
        refine hK _ _ ?_
        clear hK K
        go_simp
        refine wpAny_ready (rs := [0, 4]) (by kernel_rfl) (by simp) (AllReady.cons rfl (fun K hK => ?_) (AllReady.cons rfl (fun K hK => ?_) AllReady.nil))
        · rw [if_pos (by rfl)]
          go_simp
          refine hK _ _ ?_
          clear hK K
          go_simp
          refine wpAny_ready (rs := [4]) (by kernel_rfl) (by simp) (AllReady.cons rfl (fun K hK => ?_) AllReady.nil)
          rw [if_pos (by rfl)]
          go_simp
          refine hK _ _ ?_
          clear hK K
          go_simp
          refine wpAny_ready (rs := [5]) (by kernel_rfl) (by simp) (AllReady.cons rfl (fun K hK => ?_) AllReady.nil)
          rw [if_pos (by rfl)]
          refine wp_append_slc (.tmp 62) (.tmp 65) 22 rfl w.heap.size 9 i0 (.string ⟨#[]⟩) 1 16 Try.underlying22 hi hz0 hz1 hz2 rfl (by decide) u9 p.streams.length (strCells p.streams) rfl HI7.out.str _ 1 (strCells [p.st]) rfl HSL.out (by simp [strCells, Value.oneCell']) (by unfold maxLen; omega) (by omega) HI7.out.bel.size ?_
          intro v8 w8 hown8 hg8 _
          refine hK _ _ ?_
          clear hK K
          have H8 := Keep.mk (StInv.streamed HI7.out (streams' := p.streams ++ [p.st]) (by unfold OwnStrs; rw [List.length_append]; simpa [strCells] using hown8) hg8)
          clear hown8 hg8
          have d0 := H8.out.box.cell 0
          have d1 := H8.out.box.cell 1
          have d2 := H8.out.box.cell 2
          have r0 := H8.out.res.cell 0
          have r1 := H8.out.res.cell 1
          have r2 := H8.out.res.cell 2
          have df0 := H8.out.res.frozen 0
          have df1 := H8.out.res.frozen 1
          have df2 := H8.out.res.frozen 2
          have dl := H8.out.box.lt
          have rl := H8.out.res.lt
          simp only [storeCells, List.getElem?_cons_zero, List.getElem?_cons_succ] at d0 d1 d2 r0 r1 r2
          clear g0 g1 g2 gl
          go_simp
          refine wpAny_ready (rs := [7]) (by kernel_rfl) (by simp) (AllReady.cons rfl (fun K hK => ?_) AllReady.nil)
          rw [if_pos (by rfl)]
          go_simp
          refine hK _ _ ?_
          clear hK K
          go_simp
          refine wpAny_take (i := 8) (v := ?vr8z107) rfl (by kernel_rfl) (by kernel_rfl) (by kernel_rfl) (fun _ _ _ h => h) (Or.inl ⟨by rfl, ?hr8z107⟩) ?_
          case hr8z107 => (intro w; go_simp); try with_reducible rfl
          refine wpAny_take (i := 9) (v := ?vr9z108) rfl (by kernel_rfl) (by kernel_rfl) (by kernel_rfl) (fun _ _ _ h => h) (Or.inl ⟨by rfl, ?hr9z108⟩) ?_
          case hr9z108 => (intro w; go_simp); try with_reducible rfl
          refine wpAny_take (i := 10) (v := ?vr10z109) rfl (by kernel_rfl) (by kernel_rfl) (by kernel_rfl) (fun _ _ _ h => h) (Or.inl ⟨by rfl, ?hr10z109⟩) ?_
          case hr10z109 => (intro w; go_simp); try with_reducible rfl
          go_simp
          refine wpAny_done (by kernel_rfl) ?_ _
          clear d0 d1 d2 r0 r1 r2 df0 df1 df2 dl rl
          go_wp2
          have HE := Keep.mk (stored_end H8.out)
          have c0 := HE.out.1.cell 0
          have c1 := HE.out.1.cell 1
          have c2 := HE.out.1.cell 2
          simp only [storeCells, List.getElem?_cons_zero, List.getElem?_cons_succ] at c0 c1 c2
          generalize (((w8.setCell ⟨w.heap.size, 0, none⟩ (.slice ca p.cs.length cc)).setCell ⟨w.heap.size, 1, none⟩ (.int .i64 p.ses)).setCell ⟨w.heap.size, 2, none⟩ (.string p.st)) = wf at *
          refine bodyPost_ret (v := .tuple #[.agg #[.slice ca p.cs.length cc, .int .i64 p.ses, .string p.st], v8, u10, .bool true]) (by simp [results, Try.results17, go_sem, c0, c1, c2]) rfl ?_
          rw [HPP.out]; exact ⟨_, _, _, us, rfl, HE.out.2⟩
        · rw [if_pos (by rfl)]
          go_simp
          refine hK _ _ ?_
          clear hK K
          go_simp
          refine wpAny_ready (rs := [0, 5]) (by kernel_rfl) (by simp) (AllReady.cons rfl (fun K hK => ?_) (AllReady.cons rfl (fun K hK => ?_) AllReady.nil))
          · rw [if_pos (by rfl)]
            go_simp
            refine hK _ _ ?_
            clear hK K
            go_simp
            refine wpAny_ready (rs := [5]) (by kernel_rfl) (by simp) (AllReady.cons rfl (fun K hK => ?_) AllReady.nil)
            rw [if_pos (by rfl)]
            refine wp_append_slc (.tmp 62) (.tmp 65) 22 rfl w.heap.size 9 i0 (.string ⟨#[]⟩) 1 16 Try.underlying22 hi hz0 hz1 hz2 rfl (by decide) u9 p.streams.length (strCells p.streams) rfl HI7.out.str _ 1 (strCells [p.st]) rfl HSL.out (by simp [strCells, Value.oneCell']) (by unfold maxLen; omega) (by omega) HI7.out.bel.size ?_
            intro v8 w8 hown8 hg8 _
            refine hK _ _ ?_
            clear hK K
            have H8 := Keep.mk (StInv.streamed HI7.out (streams' := p.streams ++ [p.st]) (by unfold OwnStrs; rw [List.length_append]; simpa [strCells] using hown8) hg8)
            clear hown8 hg8
            have d0 := H8.out.box.cell 0
            have d1 := H8.out.box.cell 1
            have d2 := H8.out.box.cell 2
            have r0 := H8.out.res.cell 0
            have r1 := H8.out.res.cell 1
            have r2 := H8.out.res.cell 2
            have df0 := H8.out.res.frozen 0
            have df1 := H8.out.res.frozen 1
            have df2 := H8.out.res.frozen 2
            have dl := H8.out.box.lt
            have rl := H8.out.res.lt
            simp only [storeCells, List.getElem?_cons_zero, List.getElem?_cons_succ] at d0 d1 d2 r0 r1 r2
            clear g0 g1 g2 gl
            go_simp
            refine wpAny_ready (rs := [7]) (by kernel_rfl) (by simp) (AllReady.cons rfl (fun K hK => ?_) AllReady.nil)
            rw [if_pos (by rfl)]
            go_simp
            refine hK _ _ ?_
            clear hK K
            go_simp
            refine wpAny_take (i := 8) (v := ?vr8z110) rfl (by kernel_rfl) (by kernel_rfl) (by kernel_rfl) (fun _ _ _ h => h) (Or.inl ⟨by rfl, ?hr8z110⟩) ?_
            case hr8z110 => (intro w; go_simp); try with_reducible rfl
            refine wpAny_take (i := 9) (v := ?vr9z111) rfl (by kernel_rfl) (by kernel_rfl) (by kernel_rfl) (fun _ _ _ h => h) (Or.inl ⟨by rfl, ?hr9z111⟩) ?_
            case hr9z111 => (intro w; go_simp); try with_reducible rfl
            refine wpAny_take (i := 10) (v := ?vr10z112) rfl (by kernel_rfl) (by kernel_rfl) (by kernel_rfl) (fun _ _ _ h => h) (Or.inl ⟨by rfl, ?hr10z112⟩) ?_
            case hr10z112 => (intro w; go_simp); try with_reducible rfl
            go_simp
            refine wpAny_done (by kernel_rfl) ?_ _
            clear d0 d1 d2 r0 r1 r2 df0 df1 df2 dl rl
            go_wp2
            have HE := Keep.mk (stored_end H8.out)
            have c0 := HE.out.1.cell 0
            have c1 := HE.out.1.cell 1
            have c2 := HE.out.1.cell 2
            simp only [storeCells, List.getElem?_cons_zero, List.getElem?_cons_succ] at c0 c1 c2
            generalize (((w8.setCell ⟨w.heap.size, 0, none⟩ (.slice ca p.cs.length cc)).setCell ⟨w.heap.size, 1, none⟩ (.int .i64 p.ses)).setCell ⟨w.heap.size, 2, none⟩ (.string p.st)) = wf at *
            refine bodyPost_ret (v := .tuple #[.agg #[.slice ca p.cs.length cc, .int .i64 p.ses, .string p.st], v8, u10, .bool true]) (by simp [results, Try.results17, go_sem, c0, c1, c2]) rfl ?_
            rw [HPP.out]; exact ⟨_, _, _, us, rfl, HE.out.2⟩
          · rw [if_pos (by rfl)]
            refine wp_append_slc (.tmp 62) (.tmp 65) 22 rfl w.heap.size 9 i0 (.string ⟨#[]⟩) 1 16 Try.underlying22 hi hz0 hz1 hz2 rfl (by decide) u9 p.streams.length (strCells p.streams) rfl HI7.out.str _ 1 (strCells [p.st]) rfl HSL.out (by simp [strCells, Value.oneCell']) (by unfold maxLen; omega) (by omega) HI7.out.bel.size ?_
            intro v8 w8 hown8 hg8 _
            refine hK _ _ ?_
            clear hK K
            have H8 := Keep.mk (StInv.streamed HI7.out (streams' := p.streams ++ [p.st]) (by unfold OwnStrs; rw [List.length_append]; simpa [strCells] using hown8) hg8)
            clear hown8 hg8
            have d0 := H8.out.box.cell 0
            have d1 := H8.out.box.cell 1
            have d2 := H8.out.box.cell 2
            have r0 := H8.out.res.cell 0
            have r1 := H8.out.res.cell 1
            have r2 := H8.out.res.cell 2
            have df0 := H8.out.res.frozen 0
            have df1 := H8.out.res.frozen 1
            have df2 := H8.out.res.frozen 2
            have dl := H8.out.box.lt
            have rl := H8.out.res.lt
            simp only [storeCells, List.getElem?_cons_zero, List.getElem?_cons_succ] at d0 d1 d2 r0 r1 r2
            clear g0 g1 g2 gl
            go_simp
            refine wpAny_ready (rs := [0]) (by kernel_rfl) (by simp) (AllReady.cons rfl (fun K hK => ?_) AllReady.nil)
            rw [if_pos (by rfl)]
            go_simp
            refine hK _ _ ?_
            clear hK K
            go_simp
            refine wpAny_ready (rs := [7]) (by kernel_rfl) (by simp) (AllReady.cons rfl (fun K hK => ?_) AllReady.nil)
            rw [if_pos (by rfl)]
            go_simp
            refine hK _ _ ?_
            clear hK K
            go_simp
            refine wpAny_take (i := 8) (v := ?vr8z113) rfl (by kernel_rfl) (by kernel_rfl) (by kernel_rfl) (fun _ _ _ h => h) (Or.inl ⟨by rfl, ?hr8z113⟩) ?_
            case hr8z113 => (intro w; go_simp); try with_reducible rfl
            refine wpAny_take (i := 9) (v := ?vr9z114) rfl (by kernel_rfl) (by kernel_rfl) (by kernel_rfl) (fun _ _ _ h => h) (Or.inl ⟨by rfl, ?hr9z114⟩) ?_
            case hr9z114 => (intro w; go_simp); try with_reducible rfl
            refine wpAny_take (i := 10) (v := ?vr10z115) rfl (by kernel_rfl) (by kernel_rfl) (by kernel_rfl) (fun _ _ _ h => h) (Or.inl ⟨by rfl, ?hr10z115⟩) ?_
            case hr10z115 => (intro w; go_simp); try with_reducible rfl
            go_simp
            refine wpAny_done (by kernel_rfl) ?_ _
            clear d0 d1 d2 r0 r1 r2 df0 df1 df2 dl rl
            go_wp2
            have HE := Keep.mk (stored_end H8.out)
            have c0 := HE.out.1.cell 0
            have c1 := HE.out.1.cell 1
            have c2 := HE.out.1.cell 2
            simp only [storeCells, List.getElem?_cons_zero, List.getElem?_cons_succ] at c0 c1 c2
            generalize (((w8.setCell ⟨w.heap.size, 0, none⟩ (.slice ca p.cs.length cc)).setCell ⟨w.heap.size, 1, none⟩ (.int .i64 p.ses)).setCell ⟨w.heap.size, 2, none⟩ (.string p.st)) = wf at *
            refine bodyPost_ret (v := .tuple #[.agg #[.slice ca p.cs.length cc, .int .i64 p.ses, .string p.st], v8, u10, .bool true]) (by simp [results, Try.results17, go_sem, c0, c1, c2]) rfl ?_
            rw [HPP.out]; exact ⟨_, _, _, us, rfl, HE.out.2⟩
end Go.Proofs.Ytomlknjpaielgaa
