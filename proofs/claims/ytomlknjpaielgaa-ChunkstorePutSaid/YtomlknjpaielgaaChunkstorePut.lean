/- The law ChunkstorePut. No condition. -/
import Derived.Test.YtomlknjpaielgaaStored
import Derived.Test.YtomlknjpaielgaaStoreAwake
import Derived.Test.YtomlknjpaielgaaRefPut
import Derived.Test.YtomlknjpaielgaaOpenStrs
import Derived.BigRegion
namespace Go.Proofs.Ytomlknjpaielgaa
set_option maxRecDepth 100000
open Go.RowKit Go.Shelf Go.Proofs.Ytomlknjpaielgaa.Store

abbrev Sto := List Chk × Int × ByteArray
def stoTurn (p : Sto) : Sto := (p.1, 7, ⟨#[]⟩)
def stoPut (p : Sto) (c : ByteArray) : Sto := ((putAll p.2.1 p.1 p.2.2 c).1, p.2.1, (putAll p.2.1 p.1 p.2.2 c).2.1)
/-- The store behind the first k contents, session 7 begun ahead of number f. -/
def stoK (f : Nat) (l : List ByteArray) : Nat → Sto
  | 0 => ([], 1, ⟨#[]⟩)
  | k + 1 => stoPut (if k = f then stoTurn (stoK f l k) else stoK f l k) (l.getD k ⟨#[]⟩)
theorem stoK_ses (f : Nat) (l : List ByteArray) : ∀ k, (stoK f l k).2.1 = if f < k then 7 else 1
  | 0 => by simp [stoK]
  | k + 1 => by
    rw [stoK]
    show (if k = f then stoTurn (stoK f l k) else stoK f l k).2.1 = _
    by_cases h : k = f
    · rw [if_pos h, if_pos (by omega)]; rfl
    · rw [if_neg h, stoK_ses f l k]
      by_cases h2 : f < k
      · rw [if_pos h2, if_pos (by omega)]
      · rw [if_neg h2, if_neg (by omega)]
theorem stoK_fit {f : Nat} {l : List ByteArray} (hN : bytesS l ≤ 1000000) : ∀ k, k ≤ l.length → Fit (bytesS (l.drop k)) ((stoK f l k).1, (stoK f l k).2.2, [])
  | 0, _ => ⟨by simp [stoK], by show 0 + _ ≤ _; rw [List.drop_zero]; omega, by show 0 + _ ≤ _; rw [List.drop_zero]; omega, by show 0 + _ ≤ _; rw [List.drop_zero]; omega, by simp⟩
  | k + 1, hk => by
    have ih := stoK_fit (f := f) hN k (by omega)
    have hd := bytesS_drop (l := l) (i := k) (s := l.getD k ⟨#[]⟩) (by rw [List.getD_eq_getElem?_getD, List.getElem?_eq_getElem (by omega)]; rfl)
    rw [hd] at ih
    rw [stoK]
    have key : ∀ q : Sto, Fit ((l.getD k ⟨#[]⟩).size + bytesS (l.drop (k + 1))) (q.1, q.2.2, []) → Fit (bytesS (l.drop (k + 1))) ((stoPut q (l.getD k ⟨#[]⟩)).1, (stoPut q (l.getD k ⟨#[]⟩)).2.2, []) := fun q hq =>
      (fit_putAll (k := bytesS (l.drop (k + 1))) (by rwa [Nat.add_comm] at hq)).fresh
    refine key _ ?_
    split
    · exact ih.empty
    · exact ih

/-- A store's block is none of its chunks'. -/
theorem Chks.set {w : World} {v : Value} {l : List Chk} {g : Nat} {t : TypeId} {xs : List Value} (h : Chks w v l) (hg : Arr w g t xs) (hx : xs.length = 3) (i : Nat) (u : Value) : Chks (w.setCell ⟨g, i, none⟩ u) v l := by
  obtain ⟨a, cap, rfl, h1, h2, h3, h4⟩ := h
  refine ⟨a, cap, rfl, h1, h2, h3, ?_⟩
  rcases l with _ | ⟨c, l⟩
  · exact .inl rfl
  rcases h4 with h0 | ⟨b, o, rfl, hb, hc⟩
  · simp at h0
  refine .inr ⟨b, o, rfl, by simpa using hb, fun j y hj => ?_⟩
  have hbg : b ≠ g := by
    rintro rfl
    have h5 := hc 3 (.int .i64 c.2.2.2) (by simp [chkCells, chkV, extV])
    rw [hg.cell, List.getElem?_eq_none (by omega)] at h5
    cases h5
  refine Eq.trans ?_ (hc j y hj)
  exact World.cell?_of_block (a := ⟨b, o + j, none⟩) (Below.heap_setCell w ⟨g, i, none⟩ u b (by simpa using hbg))
theorem Chks.set3 {w : World} {v : Value} {l : List Chk} {g : Nat} {t : TypeId} {a b c : Value} (h : Chks w v l) (hg : Arr w g t [a, b, c]) (x y z : Value) :
    Chks (((w.setCell ⟨g, 0, none⟩ x).setCell ⟨g, 1, none⟩ y).setCell ⟨g, 2, none⟩ z) v l :=
  ((h.set hg rfl 0 x).set (hg.set 0 x) rfl 1 y).set ((hg.set 0 x).set 1 y) rfl 2 z

/-- Both hold the store p. -/
structure Two (w : World) (p : Sto) (wx : World) (cv dv : Value) : Prop where
  s : Arr wx w.heap.size 27 (storeCells cv p.2.1 p.2.2)
  t : Arr wx (w.heap.size + 1) 27 (storeCells dv p.2.1 p.2.2)
  cs : Chks wx cv p.1
  ct : Chks wx dv p.1
  bel : Below w.heap.size w wx
theorem Two.below {w : World} {p : Sto} {wx wy : World} {cv dv : Value} (h : Two w p wx cv dv) (hb : Below wx.heap.size wx wy) : Two w p wy cv dv :=
  ⟨h.s.below hb h.s.lt, h.t.below hb h.t.lt, h.cs.below hb (Nat.le_refl _), h.ct.below hb (Nat.le_refl _), h.bel.trans (hb.mono h.bel.size)⟩
/-- The first store is filled anew. -/
theorem Two.fill1 {w : World} {q : Sto} {wx : World} {dv a0 : Value} {b0 : Int} {c0 : ByteArray} {av : Value} (hs : Arr wx w.heap.size 27 (storeCells a0 b0 c0)) (ht : Arr wx (w.heap.size + 1) 27 (storeCells dv q.2.1 q.2.2))
    (hc : Chks wx av q.1) (hd : Chks wx dv q.1) (hb : Below w.heap.size w wx) :
    Two w q (((wx.setCell ⟨w.heap.size, 0, none⟩ av).setCell ⟨w.heap.size, 1, none⟩ (.int .i64 q.2.1)).setCell ⟨w.heap.size, 2, none⟩ (.string q.2.2)) av dv := by
  have h := (store_filled (a := av) (b := q.2.1) (c := q.2.2) hs).1
  have hne : w.heap.size + 1 ≠ w.heap.size := by omega
  exact ⟨h, ((ht.other (p := ⟨w.heap.size, 0, none⟩) hne _).other (p := ⟨w.heap.size, 1, none⟩) hne _).other (p := ⟨w.heap.size, 2, none⟩) hne _, hc.set3 hs .., hd.set3 hs ..,
    ((hb.setCell (p := ⟨w.heap.size, 0, none⟩) (Nat.le_refl _) _).setCell (p := ⟨w.heap.size, 1, none⟩) (Nat.le_refl _) _).setCell (p := ⟨w.heap.size, 2, none⟩) (Nat.le_refl _) _⟩
/-- Both stores are filled anew, the first one first. -/
theorem Two.fill {w : World} {q : Sto} {wx : World} {a0 a1 : Value} {b0 b1 : Int} {c0 c1 : ByteArray} {av dv : Value} (hs : Arr wx w.heap.size 27 (storeCells a0 b0 c0)) (ht : Arr wx (w.heap.size + 1) 27 (storeCells a1 b1 c1))
    (hc : Chks wx av q.1) (hd : Chks wx dv q.1) (hb : Below w.heap.size w wx) :
    Two w q ((((((wx.setCell ⟨w.heap.size, 0, none⟩ av).setCell ⟨w.heap.size, 1, none⟩ (.int .i64 q.2.1)).setCell ⟨w.heap.size, 2, none⟩ (.string q.2.2)).setCell ⟨w.heap.size + 1, 0, none⟩ dv).setCell ⟨w.heap.size + 1, 1, none⟩ (.int .i64 q.2.1)).setCell ⟨w.heap.size + 1, 2, none⟩ (.string q.2.2)) av dv := by
  have h := (store_filled (a := av) (b := q.2.1) (c := q.2.2) hs).1
  have hne : w.heap.size + 1 ≠ w.heap.size := by omega
  have hne' : w.heap.size ≠ w.heap.size + 1 := by omega
  have ht' := ((ht.other (p := ⟨w.heap.size, 0, none⟩) hne av).other (p := ⟨w.heap.size, 1, none⟩) hne (.int .i64 q.2.1)).other (p := ⟨w.heap.size, 2, none⟩) hne (.string q.2.2)
  have hb' := ((hb.setCell (p := ⟨w.heap.size, 0, none⟩) (Nat.le_refl _) av).setCell (p := ⟨w.heap.size, 1, none⟩) (Nat.le_refl _) (.int .i64 q.2.1)).setCell (p := ⟨w.heap.size, 2, none⟩) (Nat.le_refl _) (.string q.2.2)
  have hk : ∀ i : Nat, w.heap.size ≤ (⟨w.heap.size + 1, i, none⟩ : Addr).block := fun i => by show w.heap.size ≤ w.heap.size + 1; omega
  exact ⟨((h.other (p := ⟨w.heap.size + 1, 0, none⟩) hne' dv).other (p := ⟨w.heap.size + 1, 1, none⟩) hne' _).other (p := ⟨w.heap.size + 1, 2, none⟩) hne' _,
    (store_filled (a := dv) (b := q.2.1) (c := q.2.2) ht').1, (hc.set3 hs ..).set3 ht' .., (hd.set3 hs ..).set3 ht' ..,
    ((hb'.setCell (hk 0) dv).setCell (hk 1) (.int .i64 q.2.1)).setCell (hk 2) (.string q.2.2)⟩
/-- What stands behind a statement that stores a content: the store in a box of its own, the extents, no error. -/
def PutOut (wo : World) (p : Sto) (c : ByteArray) (v12 v13 v14 : Value) (wx : World) : Prop :=
  ∃ G a n cap e m cap', v12 = .pointer (some ⟨G, 0, none⟩) ∧ v13 = .slice e m cap' ∧ v14 = .int .i64 0 ∧ Below wo.heap.size wo wx ∧ wo.heap.size ≤ G ∧ Arr wx G 27 (storeCells (.slice a n cap) p.2.1 (stoPut p c).2.2) ∧ Chks wx (.slice a n cap) (stoPut p c).1 ∧ Exts wx (.slice e m cap') (putAll p.2.1 p.1 p.2.2 c).2.2
theorem PutOut.below {wo wx wy : World} {p : Sto} {c : ByteArray} {v12 v13 v14 : Value} (h : PutOut wo p c v12 v13 v14 wx) (hb : Below wx.heap.size wx wy) : PutOut wo p c v12 v13 v14 wy := by
  obtain ⟨G, a, n, cap, e, m, cap', h1, h2, h3, h4, h5, h6, h7, h8⟩ := h
  exact ⟨G, a, n, cap, e, m, cap', h1, h2, h3, h4.trans (hb.mono h4.size), h5, h6.below hb h6.lt, h7.below hb (Nat.le_refl _), h8.below hb (Nat.le_refl _)⟩
open Go.ChangeShapes Go.WideShapes Go.ChangeAt
open Go.ChangeMaps (open_string shut_string)

theorem refPut_more {w5 wx : World} {v : Value} {ses : Int} {st c : ByteArray} {r : Acc} (h : Calls Try.prog 14 #[.agg #[v, .int .i64 ses, .string st], .string c] wx fun e w' => ∃ cv ev, e = .returned (.tuple #[.agg #[cv, .int .i64 ses, .string r.2.1], ev, .int .i64 0]) ∧
      Chks w' cv r.1 ∧ OwnExts wx.heap.size w' ev r.2.2 ∧ Below wx.heap.size wx w') (hz : w5.heap.size ≤ wx.heap.size) :
    Calls Try.prog 14 #[.agg #[v, .int .i64 ses, .string st], .string c] wx fun e w' => ∃ a4 n4 c4 e4 m4 d4, e = .returned (.tuple #[.agg #[.slice a4 n4 c4, .int .i64 ses, .string r.2.1], .slice e4 m4 d4, .int .i64 0]) ∧
      Chks w' (.slice a4 n4 c4) r.1 ∧ OwnExts wx.heap.size w' (.slice e4 m4 d4) r.2.2 ∧ Below wx.heap.size wx w' ∧ w5.heap.size ≤ w'.heap.size :=
  h.mono fun _ _ ⟨cv, ev, h1, h2, h3, h4⟩ => by
    obtain ⟨a4, c4, rfl, _⟩ := h2.parts
    obtain ⟨e4, d4, rfl⟩ := ownsRow_slice h3
    exact ⟨_, _, _, _, _, _, h1, h2, h3, h4, Nat.le_trans hz h4.size⟩

set_option maxHeartbeats 8000000 in
theorem putLaw_any {w : World} {v : Value} {l : List ByteArray} {at0 : Nat} (ha : at0 < 256) (hS : Strs w v l) :
    Calls Try.prog 3 #[v, .int .u8 at0] w fun e w' => e = .returned (.bool true) ∧ Below w.heap.size w w' := by
  obtain ⟨a, cap, rfl, h1, h2, h3⟩ := hS.at
  have HS := Keep.mk hS
  have H3 := Keep.mk h3
  clear hS h3
  unfold maxLen at h2
  go_enter Try.func3, Try.ntmps3
  go_wp2_with fail
  refine (few_any HS.out).mono ?_
  rintro e w' ⟨⟨fb, rfl, hfew⟩, hw'⟩
  obtain rfl : w = w' := hw'
  cases fb with
  | false =>
    clear hfew
    go_wp2_with fail
    refine (awake_any w).mono ?_
    rintro e w1 ⟨rfl, hb1⟩
    go_wp2_with fail
    go_ret
    exact ⟨rfl, hb1⟩
  | true =>
    obtain ⟨hsz, htot⟩ := hfew rfl
    have HZ := Keep.mk hsz
    clear hfew hsz
    obtain ⟨f, hf⟩ : ∃ f, f = at0 % 4 + 1 := ⟨_, rfl⟩
    have hmod : (at0 : Int) % 4 + 1 = (f : Int) := by rw [hf]; simp
    have n0 : (0 : Int) ≤ (at0 : Int) := by omega
    have n1 : (at0 : Int) < 256 := by omega
    clear hf
    go_upto_region 4 with (fail)
    have H0 : Keep (Two w (stoK f l 0) ((w.alloc (.cells #[.slice none 0 0, .int .i64 1, .string ⟨#[]⟩] 27)).alloc (.cells #[.slice none 0 0, .int .i64 1, .string ⟨#[]⟩] 27)) (.slice none 0 0) (.slice none 0 0)) := ⟨by
      have a2 := Arr.new (w.alloc (.cells #[.slice none 0 0, .int .i64 1, .string ⟨#[]⟩] 27)) 27 (storeCells (.slice none 0 0) 1 ⟨#[]⟩)
      rw [World.size_alloc] at a2
      exact ⟨(Arr.new w 27 (storeCells (.slice none 0 0) 1 ⟨#[]⟩)).alloc _, a2, Chks.nil _, Chks.nil _, ((Below.refl _ _).alloc (Nat.le_refl _) _).alloc (by simp) _⟩⟩
    generalize ((w.alloc (.cells #[.slice none 0 0, .int .i64 1, .string ⟨#[]⟩] 27)).alloc (.cells #[.slice none 0 0, .int .i64 1, .string ⟨#[]⟩] 27)) = w0 at *
    go_wp2_with fail
    go_loopw [26] (fun i wr => ∃ (k : Nat) (cv dv : Value), k ≤ l.length ∧ i = .int .i64 k ∧ Keep (Two w (stoK f l k) wr cv dv)) (fun i _ => l.length - (intOf i).toNat)
    case atStart => exact ⟨0, _, _, Nat.zero_le _, rfl, H0⟩
    case round =>
      obtain ⟨k, cv, dv, hk, rfl, HI⟩ := hrel
      clear H0
      by_cases hlt : k < l.length
      · have k0 : (0 : Int) ≤ k := by omega
        have k1 : (k : Int) < l.length := by omega
        have hkf : ((k : Int) == (f : Int)) = decide (k = f) := by rw [Bool.eq_iff_iff]; simp; omega
        have hses : k = f → (stoK f l k).2.1 = 1 := fun h => by rw [stoK_ses, if_neg (by omega)]
        have HPK := Keep.mk (show stoK f l (k + 1) = stoPut (if k = f then stoTurn (stoK f l k) else stoK f l k) (l.getD k ⟨#[]⟩) from rfl)
        have HFT := Keep.mk (stoK_fit (f := f) (l := l) (by omega) k hk)
        have HSE := Keep.mk hses
        have HS2 : Keep ((stoK f l k).2.1 = 1 ∨ (stoK f l k).2.1 = 7) := ⟨by rw [stoK_ses]; split <;> simp⟩
        clear hses
        generalize stoK f l k = p at *
        go_upto_if 34 with fail
        go_cut [8, 9, 10, 11] from 34 to 49 (fun v8 v9 v10 v11 wx => ∃ cv dv, Two w (if k = f then stoTurn p else p) wx cv dv)
        case first =>
          by_cases hkf2 : k = f
          · have hs1 := HSE.out hkf2
            have hcl : p.1.length ≤ 1000000 := by have := HFT.out.few; simp only at this; omega
            have hkt : decide (k = f) = true := decide_eq_true hkf2
            have HKF := Keep.mk hkf2
            clear hkf2
            rw [hkt]
            have c0 := HI.out.s.cell 0
            have c1 := HI.out.s.cell 1
            have c2 := HI.out.s.cell 2
            simp only [storeCells, List.getElem?_cons_zero, List.getElem?_cons_succ] at c0 c1 c2
            rw [hs1] at c1
            go_wp2_with fail
            refine (begin_any HI.out.cs hcl (by decide) (by decide) (by decide)).mono ?_
            rintro e w6 ⟨ca, cc, rfl, hch, hb6⟩
            have HI6 := Keep.mk (HI.out.below hb6)
            have HC6 := Keep.mk hch.chks
            clear hch hb6 c0 c1 c2 HI
            go_upto_region 9 with (fail)
            have HA7 : Keep (Arr (w6.alloc (.cells #[.slice ca p.1.length cc, .int .i64 7, .string ⟨#[]⟩] 27)) w6.heap.size 27 (storeCells (.slice ca p.1.length cc) 7 ⟨#[]⟩)) := ⟨Arr.new w6 27 (storeCells (.slice ca p.1.length cc) 7 ⟨#[]⟩)⟩
            have hb7 : Below w6.heap.size w6 (w6.alloc (.cells #[.slice ca p.1.length cc, .int .i64 7, .string ⟨#[]⟩] 27)) := (Below.refl _ _).alloc (Nat.le_refl _) _
            have HI7 := Keep.mk (HI6.out.below hb7)
            have HC7 := Keep.mk (HC6.out.below hb7 (Nat.le_refl _))
            have hGl : w.heap.size + 1 < w6.heap.size := HI6.out.t.lt
            clear hb7 HI6 HC6
            generalize (w6.alloc (.cells #[.slice ca p.1.length cc, .int .i64 7, .string ⟨#[]⟩] 27)) = w7 at *
            generalize w6.heap.size = G at *
            have c0 := HI7.out.t.cell 0
            have c1 := HI7.out.t.cell 1
            have c2 := HI7.out.t.cell 2
            simp only [storeCells, List.getElem?_cons_zero, List.getElem?_cons_succ] at c0 c1 c2
            rw [hs1] at c1
            obtain ⟨da, dc, rfl, _⟩ := HI7.out.ct.parts
            go_wp2_with fail
            refine (refBegin_any (by decide) (by decide) (by decide)).mono ?_
            rintro e w8 ⟨rfl, hb8⟩
            clear c0 c1 c2
            go_upto_region 12 with (fail)
            have hb9 : Below w7.heap.size w7 (w8.alloc (.cells #[.slice da p.1.length dc, .int .i64 7, .string ⟨#[]⟩] 27)) := hb8.alloc hb8.size _
            have hHl : G < w8.heap.size := Nat.lt_of_lt_of_le HA7.out.lt hb8.size
            have hA9 : Arr (w8.alloc (.cells #[.slice da p.1.length dc, .int .i64 7, .string ⟨#[]⟩] 27)) w8.heap.size 27 (storeCells (.slice da p.1.length dc) 7 ⟨#[]⟩) := Arr.new w8 27 (storeCells (.slice da p.1.length dc) 7 ⟨#[]⟩)
            have HI9 := Keep.mk (HI7.out.below hb9)
            have HC9 := Keep.mk (HC7.out.below hb9 (Nat.le_refl _))
            have hG9 := HA7.out.below hb9 HA7.out.lt
            have g0 := hG9.cell 0
            have g1 := hG9.cell 1
            have g2 := hG9.cell 2
            have gl := hG9.lt
            have d0 := hA9.cell 0
            have d1 := hA9.cell 1
            have d2 := hA9.cell 2
            have dl := hA9.lt
            have s0 := HI9.out.s.cell 0
            have s1 := HI9.out.s.cell 1
            have s2 := HI9.out.s.cell 2
            have sf0 := HI9.out.s.frozen 0
            have sf1 := HI9.out.s.frozen 1
            have sf2 := HI9.out.s.frozen 2
            have sl := HI9.out.s.lt
            have t0 := HI9.out.t.cell 0
            have t1 := HI9.out.t.cell 1
            have t2 := HI9.out.t.cell 2
            have tf0 := HI9.out.t.frozen 0
            have tf1 := HI9.out.t.frozen 1
            have tf2 := HI9.out.t.frozen 2
            have tl := HI9.out.t.lt
            simp only [storeCells, List.getElem?_cons_zero, List.getElem?_cons_succ] at g0 g1 g2 d0 d1 d2 s0 s1 s2 t0 t1 t2
            clear hb8 hb9 hA9 hG9 HI7 HC7 HA7
            generalize (w8.alloc (.cells #[.slice da p.1.length dc, .int .i64 7, .string ⟨#[]⟩] 27)) = w9 at *
            generalize w8.heap.size = H at *
            go_region
            go_wp2
            go_meet
            rw [if_pos HKF.out]
            exact ⟨_, _, (Two.fill (q := stoTurn p) HI9.out.s HI9.out.t HC9.out HI9.out.ct HI9.out.bel).below (Below.refl _ _).drew⟩
          · have hkt : decide (k = f) = false := decide_eq_false hkf2
            rw [hkt]
            have HKF := Keep.mk hkf2
            clear hkf2
            go_wp2
            go_meet
            refine ⟨cv, dv, ?_⟩
            rw [if_neg HKF.out]
            exact HI.out
        case rest =>
        obtain ⟨cv2, dv2, HI2⟩ := hcut
        have HI := Keep.mk HI2
        have hx : l.getD k ⟨#[]⟩ ∈ l := by rw [List.getD_eq_getElem?_getD, List.getElem?_eq_getElem hlt]; exact List.getElem_mem hlt
        have hgx : l[k]? = some (l.getD k ⟨#[]⟩) := by rw [List.getD_eq_getElem?_getD, List.getElem?_eq_getElem hlt]; rfl
        have hxz := HZ.out _ hx
        obtain ⟨b, o, rfl, hbw, hcx⟩ := H3.out k _ hgx
        have hqf : Keep (Fit (l.getD k ⟨#[]⟩).size ((if k = f then stoTurn p else p).1, (if k = f then stoTurn p else p).2.2, [])) := ⟨by
          have h1 := (HFT.out.less (m := (l.getD k ⟨#[]⟩).size) (by rw [bytesS_drop hgx]; omega))
          split
          · exact h1.empty
          · exact h1⟩
        have hqs : Keep ((if k = f then stoTurn p else p).2.1 = 1 ∨ (if k = f then stoTurn p else p).2.1 = 7) := ⟨by
          by_cases hkf2 : k = f
          · rw [if_pos hkf2]; exact .inr rfl
          · rw [if_neg hkf2]; exact HS2.out⟩
        have HCX := Keep.mk (fun {wx : World} (hb : Below w.heap.size w wx) => (hb.cell (p := ⟨b, o + k, none⟩) hbw).trans hcx)
        clear HI2 HFT HSE hx hgx hcx hkf
        generalize (if k = f then stoTurn p else p) = q at *
        generalize l.getD k ⟨#[]⟩ = x at *
        clear HS2
        generalize hwr : wc = w5 at *
        clear hwr
        obtain ⟨q1, qs, qt⟩ := q
        simp only at hqs hqf
        have hq1 : 1 ≤ qs := by have := hqs.out; omega
        have hq2 : qs ≤ 255 := by have := hqs.out; omega
        go_upto_region 13 with (fail)
        go_cut [12, 13, 14] from 50 to 59 (fun v12 v13 v14 wx => PutOut w5 (q1, qs, qt) x v12 v13 v14 wx)
        case first =>
          have hcx' := HCX.out HI.out.bel
          have c0 := HI.out.s.cell 0
          have c1 := HI.out.s.cell 1
          have c2 := HI.out.s.cell 2
          simp only [storeCells, List.getElem?_cons_zero, List.getElem?_cons_succ] at c0 c1 c2
          have l1 := HI.out.s.lt
          have l2 : b < w5.heap.size := Nat.lt_of_lt_of_le hbw HI.out.bel.size
          have HP := fun (wx : World) (h : Below w5.heap.size w5 wx) => put_more (put_any (content := x) (ses := qs) (st := qt) (HI.out.cs.below h (Nat.le_refl _)) hq1 hq2 (by omega) hqf.out) h.size
          have HFin : Keep (∀ (wx : World) (G : Nat) (a4 : Option Addr) (n4 c4 : Nat) (e4 : Option Addr) (m4 d4 : Nat), Below w5.heap.size w5 wx → w5.heap.size ≤ G → Arr wx G 27 (storeCells (.slice a4 n4 c4) qs (putAll qs q1 qt x).2.1) → OwnChks w5.heap.size wx (.slice a4 n4 c4) (putAll qs q1 qt x).1 → OwnExts w5.heap.size wx (.slice e4 m4 d4) (putAll qs q1 qt x).2.2 →
              PutOut w5 (q1, qs, qt) x (.pointer (some ⟨G, 0, none⟩)) (.slice e4 m4 d4) (.int .i64 0) wx) := ⟨fun wx G a4 n4 c4 e4 m4 d4 hb hG hA hc he => ⟨G, a4, n4, c4, e4, m4, d4, rfl, rfl, rfl, hb, hG, hA, hc.chks, he.exts⟩⟩
          clear HI hqf HPK
          generalize putAll qs q1 qt x = r at *
          go_region_held3 (fun w' => ((w'.cell? ⟨w.heap.size, 0, none⟩ = some cv2 ∧ w'.cell? ⟨w.heap.size, 1, none⟩ = some (.int .i64 qs) ∧ w'.cell? ⟨w.heap.size, 2, none⟩ = some (.string qt)) ∧ w'.cell? ⟨b, o + k, none⟩ = some (.string x)) ∧ Below w5.heap.size w5 w')
            (first | with_reducible exact held4_start ⟨⟨⟨c0, c1, c2⟩, hcx'⟩, Below.refl w5.heap.size w5⟩ | with_reducible exact held4_set l1 l1 l1 l2 (by assumption) | with_reducible exact held4 l1 l1 l1 l2 hb4 (by assumption) | with_reducible exact held4_alloc l1 l1 l1 l2 (by assumption) | with_reducible exact held4_allocd l1 l1 l1 l2 (by assumption) | with_reducible exact held4_re l1 l1 l1 l2 hz4 (by assumption) | with_reducible assumption)
            ((go_at_call 13; (with_reducible refine (HP _ ?_).mono ?_); (exact And.right (by assumption)); rintro e w4 ⟨a4, n4, c4, e4, m4, d4, rfl, hcv, hev, hb4, hz4⟩; (first | (have hg4 := zero_store hb4; have g40 := hg4.cell 0; have g41 := hg4.cell 1; have g42 := hg4.cell 2; have f40 := hg4.frozen 0; have f41 := hg4.frozen 1; have f42 := hg4.frozen 2; simp only [storeCells, List.getElem?_cons_zero, List.getElem?_cons_succ] at g40 g41 g42; have hlt4 := hg4.lt) | skip)))
          · go_wp2
            go_meet
            exact HFin.out _ _ _ _ _ _ _ _ (And.right (by assumption)) hz4 (Arr.new w4 _ (storeCells (.slice a4 n4 c4) qs r.2.1)) (World.ownsRow.alloc hcv _) (World.ownsRow.alloc hev _)
          · go_wp2
            go_meet
            have hfl := store_filled (a := .slice a4 n4 c4) (b := qs) (c := r.2.1) hg4
            exact HFin.out _ _ _ _ _ _ _ _ (And.right (by assumption)) (Nat.le_refl _) hfl.1 (hfl.2.row (ownsRow_base hcv (by show w5.heap.size ≤ (w5.alloc _).heap.size; simp)) (by decide)) (hfl.2.row (ownsRow_base hev (by show w5.heap.size ≤ (w5.alloc _).heap.size; simp)) (by decide))
        case rest =>
        have HO := Keep.mk hcut
        have h5l := HI.out.t.lt
        have hb56 : Below w5.heap.size w5 wc := by obtain ⟨_, _, _, _, _, _, _, _, _, _, h, _⟩ := hcut; exact h
        have HI6 := Keep.mk (HI.out.below hb56)
        have h56 := hb56.size
        clear HI hcut hb56
        generalize hwr6 : wc = w6 at *
        clear hwr6
        go_upto_region 14 with (fail)
        go_cut [15, 16, 17] from 60 to 69 (fun v15 v16 v17 wx => PutOut w6 (q1, qs, qt) x v15 v16 v17 wx)
        case first =>
          have hcx' := HCX.out HI6.out.bel
          have c0 := HI6.out.t.cell 0
          have c1 := HI6.out.t.cell 1
          have c2 := HI6.out.t.cell 2
          simp only [storeCells, List.getElem?_cons_zero, List.getElem?_cons_succ] at c0 c1 c2
          have l1 := HI6.out.t.lt
          have l2 : b < w6.heap.size := Nat.lt_of_lt_of_le hbw HI6.out.bel.size
          have HP := fun (wx : World) (h : Below w6.heap.size w6 wx) => refPut_more (refPut_any (content := x) (ses := qs) (st := qt) (HI6.out.ct.below h (Nat.le_refl _)) hq1 hq2 (by omega) hqf.out) h.size
          have HFin : Keep (∀ (wx : World) (G : Nat) (a4 : Option Addr) (n4 c4 : Nat) (e4 : Option Addr) (m4 d4 : Nat), Below w6.heap.size w6 wx → w6.heap.size ≤ G → Arr wx G 27 (storeCells (.slice a4 n4 c4) qs (putAll qs q1 qt x).2.1) → Chks wx (.slice a4 n4 c4) (putAll qs q1 qt x).1 → OwnExts w6.heap.size wx (.slice e4 m4 d4) (putAll qs q1 qt x).2.2 →
              PutOut w6 (q1, qs, qt) x (.pointer (some ⟨G, 0, none⟩)) (.slice e4 m4 d4) (.int .i64 0) wx) := ⟨fun wx G a4 n4 c4 e4 m4 d4 hb hG hA hc he => ⟨G, a4, n4, c4, e4, m4, d4, rfl, rfl, rfl, hb, hG, hA, hc, he.exts⟩⟩
          clear HI6 hqf HPK HO
          generalize putAll qs q1 qt x = r at *
          go_region_held3 (fun w' => ((w'.cell? ⟨w.heap.size + 1, 0, none⟩ = some dv2 ∧ w'.cell? ⟨w.heap.size + 1, 1, none⟩ = some (.int .i64 qs) ∧ w'.cell? ⟨w.heap.size + 1, 2, none⟩ = some (.string qt)) ∧ w'.cell? ⟨b, o + k, none⟩ = some (.string x)) ∧ Below w6.heap.size w6 w')
            (first | with_reducible exact held4_start ⟨⟨⟨c0, c1, c2⟩, hcx'⟩, Below.refl w6.heap.size w6⟩ | with_reducible exact held4_set l1 l1 l1 l2 (by assumption) | with_reducible exact held4 l1 l1 l1 l2 hb4 (by assumption) | with_reducible exact held4_alloc l1 l1 l1 l2 (by assumption) | with_reducible exact held4_allocd l1 l1 l1 l2 (by assumption) | with_reducible exact held4_re l1 l1 l1 l2 hz4 (by assumption) | with_reducible assumption)
            ((go_at_call 14; (with_reducible refine (HP _ ?_).mono ?_); (exact And.right (by assumption)); rintro e w4 ⟨a4, n4, c4, e4, m4, d4, rfl, hcv, hev, hb4, hz4⟩; (first | (have hg4 := zero_store hb4; have g40 := hg4.cell 0; have g41 := hg4.cell 1; have g42 := hg4.cell 2; have f40 := hg4.frozen 0; have f41 := hg4.frozen 1; have f42 := hg4.frozen 2; simp only [storeCells, List.getElem?_cons_zero, List.getElem?_cons_succ] at g40 g41 g42; have hlt4 := hg4.lt) | skip)))
          · go_wp2
            go_meet
            exact HFin.out _ _ _ _ _ _ _ _ (And.right (by assumption)) hz4 (Arr.new w4 _ (storeCells (.slice a4 n4 c4) qs r.2.1)) (hcv.below ((Below.refl _ _).alloc (Nat.le_refl _) _) (Nat.le_refl _)) (World.ownsRow.alloc hev _)
          · go_wp2
            go_meet
            have hfl := store_filled (a := .slice a4 n4 c4) (b := qs) (c := r.2.1) hg4
            exact HFin.out _ _ _ _ _ _ _ _ (And.right (by assumption)) (Nat.le_refl _) hfl.1 (hcv.set3 hg4 ..) (hfl.2.row (ownsRow_base hev (by show w6.heap.size ≤ (w6.alloc _).heap.size; simp)) (by decide))
        case rest =>
        have HO2 := Keep.mk hcut
        have hb67 : Below w6.heap.size w6 wc := by obtain ⟨_, _, _, _, _, _, _, _, _, _, h, _⟩ := hcut; exact h
        have HI7 := Keep.mk (HI6.out.below hb67)
        have HO1 := Keep.mk (HO.out.below hb67)
        clear HI6 hcut hb67 HO HCX
        generalize hwr7 : wc = w7 at *
        clear hwr7
        obtain ⟨G, ga, gn, gc, ea, en, ec, rfl, rfl, rfl, hGb, hGz, hGa, hGc, hGe⟩ := HO1.out
        obtain ⟨H, ja, jn, jc, fa, fn, fc, rfl, rfl, rfl, hHb, hHz, hHa, hHc, hHe⟩ := HO2.out
        have g0 := hGa.cell 0
        have g1 := hGa.cell 1
        have g2 := hGa.cell 2
        have gl := hGa.lt
        have j0 := hHa.cell 0
        have j1 := hHa.cell 1
        have j2 := hHa.cell 2
        have jl := hHa.lt
        simp only [storeCells, List.getElem?_cons_zero, List.getElem?_cons_succ] at g0 g1 g2 j0 j1 j2
        have HGa := Keep.mk hGa
        have HHa := Keep.mk hHa
        have HGc := Keep.mk hGc
        have HHc := Keep.mk hHc
        have HGe := Keep.mk hGe
        have HHe := Keep.mk hHe
        clear hGa hGb hGc hGe hHb hHa hHc hHe HO1 HO2
        go_wp2_with fail
        refine (sameStore_any HGc.out HHc.out).mono ?_
        rintro e7 w8 ⟨rfl, hb8⟩
        clear g0 g1 g2 gl j0 j1 j2 jl
        have HI8 := Keep.mk (HI7.out.below hb8)
        have HGa8 := Keep.mk (HGa.out.below hb8 HGa.out.lt)
        have HHa8 := Keep.mk (HHa.out.below hb8 HHa.out.lt)
        have HGc8 := Keep.mk (HGc.out.below hb8 (Nat.le_refl _))
        have HHc8 := Keep.mk (HHc.out.below hb8 (Nat.le_refl _))
        have HGe8 := Keep.mk (HGe.out.below hb8 (Nat.le_refl _))
        have HHe8 := Keep.mk (HHe.out.below hb8 (Nat.le_refl _))
        clear hb8 HI7 HGa HHa HGc HHc HGe HHe
        go_wp2_with fail
        refine (sameExts_any _ _ _ _ _ HGe8.out HHe8.out).mono ?_
        rintro e8 w9 ⟨rfl, hb9⟩
        rw [decide_eq_true rfl]
        have HI9 := Keep.mk (HI8.out.below hb9)
        have HGc9 := Keep.mk (HGc8.out.below hb9 (Nat.le_refl _))
        have HHc9 := Keep.mk (HHc8.out.below hb9 (Nat.le_refl _))
        have hGa9 := HGa8.out.below hb9 HGa8.out.lt
        have hHa9 := HHa8.out.below hb9 HHa8.out.lt
        clear hb9 HI8 HGa8 HHa8 HGc8 HHc8 HGe8 HHe8
        go_upto_region 17 with (fail)
        have g0 := hGa9.cell 0
        have g1 := hGa9.cell 1
        have g2 := hGa9.cell 2
        have gl := hGa9.lt
        have j0 := hHa9.cell 0
        have j1 := hHa9.cell 1
        have j2 := hHa9.cell 2
        have jl := hHa9.lt
        have s0 := HI9.out.s.cell 0
        have s1 := HI9.out.s.cell 1
        have s2 := HI9.out.s.cell 2
        have sf0 := HI9.out.s.frozen 0
        have sf1 := HI9.out.s.frozen 1
        have sf2 := HI9.out.s.frozen 2
        have sl := HI9.out.s.lt
        have t0 := HI9.out.t.cell 0
        have t1 := HI9.out.t.cell 1
        have t2 := HI9.out.t.cell 2
        have tf0 := HI9.out.t.frozen 0
        have tf1 := HI9.out.t.frozen 1
        have tf2 := HI9.out.t.frozen 2
        have tl := HI9.out.t.lt
        have hGl : w.heap.size + 1 < G := by omega
        have hHl : w.heap.size + 1 < H := by omega
        simp only [storeCells, List.getElem?_cons_zero, List.getElem?_cons_succ] at g0 g1 g2 j0 j1 j2 s0 s1 s2 t0 t1 t2
        clear hGa9 hHa9
        go_region
        clear g0 g1 g2 gl j0 j1 j2 jl s0 s1 s2 sf0 sf1 sf2 sl t0 t1 t2 tf0 tf1 tf2 tl
        have HFI := Keep.mk ((Two.fill (q := stoPut (q1, qs, qt) x) HI9.out.s HI9.out.t HGc9.out HHc9.out HI9.out.bel).below (Below.refl _ _).drew)
        clear HI9 HGc9 HHc9
        go_wp2
        go_roundw
        case rel => exact ⟨k + 1, _, _, by omega, by go_num, ⟨by rw [HPK.out]; exact HFI.out⟩⟩
        case measure => simp [intOf]; omega
      · have HBF := Keep.mk HI.out.bel
        go_wp2_with fail
        refine (awake_any _).mono ?_
        rintro e7 w7 ⟨rfl, hb7⟩
        have HB7 := Keep.mk (HBF.out.trans (hb7.mono HBF.out.size))
        clear hb7
        go_wp2
        go_ret
        exact ⟨rfl, HB7.out⟩

theorem ChunkstorePut_walk : LawWalk 3 Try.f3 := by
  intro H enc W base args ds ps hval hA hsz
  rw [Try.params3] at hA hval hsz
  obtain ⟨v0, vs0, d0, ds0, p0, q0, hargs, rfl, rfl, h0, r0⟩ := trodAll_cons hA
  obtain ⟨v1, vs1, d1, ds1, p1, q1, rfl, rfl, rfl, h1, r1⟩ := trodAll_cons r0
  obtain ⟨rfl, rfl, rfl⟩ := trodAll_nil r1
  obtain rfl : args = #[v0, v1] := by cases args; simp_all
  obtain ⟨l, k1, _⟩ := open_strs0 (hval 0 22 v0 rfl rfl) h0 (sized_each hsz (j := 0) rfl rfl)
  obtain ⟨n, rfl, rfl, rfl, wn⟩ := open_int Try.underlying5 (hval 1 5 v1 rfl rfl) h1
  have hn : 0 ≤ n ∧ n < 256 := by
    simp only [Lit.wf, IntKind.min, IntKind.max, IntKind.signed, IntKind.bits] at wn
    simp at wn
    omega
  obtain ⟨c, rfl⟩ := Int.eq_ofNat_of_zero_le hn.1
  exact putLaw_any (by omega) k1
end Go.Proofs.Ytomlknjpaielgaa
namespace Go.Proofs.Ytomlknjpaielgaa
open Go.ChangeShapes Go.WideShapes Go.ChangeAt Go.RowKit
set_option maxRecDepth 100000 in
theorem ChunkstorePut_lifted (os : Os) (started : os.Started) (H : Type) (enc : TypeId × Value → H) :
    ReturnsInHanded {} Try.checked os 3 .any (Rows.chunkstorePutSpec.pre6 enc Try.prog Try.f3 Rows.chunkstorePutRow.domain false) (Rows.chunkstorePutSpec.post enc Try.prog Try.f3 false true false false) := by
  refine returnsInHanded_of_change_sized (C := Try.checked) own started (by kernel_rfl) Try.func3
    (ChangeSpec.witness6 (enc := enc) (C := Try.checked) false ⟨#[], #[.slice none 0 0, .int .u8 0], []⟩ 8 (by kernel_rfl) (by kernel_rfl) (by kernel_rfl) (by kernel_rfl)) ?_
  exact law_contract (by kernel_rfl) (by kernel_rfl) ⟨rfl, fun H ds h => by rw [Try.params3] at h; match ds, h with | [d0, d1], _ => rfl⟩ ChunkstorePut_walk
theorem ChunkstorePut_over : Rows.chunkstorePutRow.holds Try.pinned (OpenSpec.ofChange Rows.chunkstorePutSpec) :=
  OpenClaim.holds_of_wide 3 Try.f3 rfl rfl rfl rfl rfl rfl rfl ⟨rfl, rfl, rfl, rfl, rfl⟩ rfl rfl rfl rfl rfl (by kernel_rfl) Try.func3 (by kernel_rfl)
    (of_decide_eq_true (by kernel_rfl)) (by unfold Func.isWrapper; first | (rw [if_pos (by decide +kernel)]; kernel_rfl) | (rw [if_neg (by decide +kernel)]; exact ⟨rfl, rfl⟩))
    (fun os started H enc _ => ChunkstorePut_lifted os started H enc)
theorem ChunkstorePut_proved : Rows.ChunkstorePutSaid := ChunkstorePut_over
end Go.Proofs.Ytomlknjpaielgaa
