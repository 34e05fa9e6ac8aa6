/- Collides of the reference: no, then digests tell chunks apart. Condition: bounds. -/
import Derived.Test.YtomlknjpaielgaaRoundMath
import Derived.Test.YtomlknjpaielgaaStInv
import Derived.Test.YtomlknjpaielgaaSparseRef
import Derived.Test.YtomlknjpaielgaaChunkRef
import Derived.Test.YtomlknjpaielgaaB2RefSum
import Derived.Deep.DeepMust
namespace Go.Proofs.Ytomlknjpaielgaa
set_option maxRecDepth 100000
open Go.RowKit Go.Shelf Go.Proofs.Ytomlknjpaielgaa.Store Go.Proofs.Ytomlknjpaielgaa.Sparse

/-- Two rows of strings that the call has made itself. -/
structure TwoR (w wr : World) (s3 : Value) (C : List ByteArray) (s4 : Value) (D : List ByteArray) : Prop where
  c : OwnStrs w.heap.size wr s3 C
  d : OwnStrs w.heap.size wr s4 D
  ne : ∃ a b, s3.ownBlock = some a ∧ s4.ownBlock = some b ∧ a ≠ b
  bel : Below w.heap.size w wr
theorem ownRow_kept {w w' : World} {base : Nat} {e : TypeId} {size n : Nat} {v : Value} {xs : List Value} {row : Option Nat} (h : w.ownsRow base e size v n xs) (hg : w.grownBy w' row) (hne : v.ownBlock = none ∨ v.ownBlock ≠ row) : w'.ownsRow base e size v n xs := by
  obtain ⟨h1, h2⟩ := h
  refine ⟨h1, h2.imp id ?_⟩
  rintro ⟨g, cap, cur, rfl, hb, hh, r⟩
  refine ⟨g, cap, cur, rfl, hb, (hg.block g (Array.getElem?_eq_some_iff.1 hh).1 (fun e => ?_)).trans hh, r⟩
  rcases hne with h | h
  · simp [Value.ownBlock] at h
  · exact h e
theorem ownRow_low {w w' : World} {base : Nat} {e : TypeId} {size n : Nat} {v : Value} {xs : List Value} (h : w.ownsRow base e size v n xs) (hb : Below w.heap.size w w') : w'.ownsRow base e size v n xs := by
  obtain ⟨h1, h2⟩ := h
  refine ⟨h1, h2.imp id ?_⟩
  rintro ⟨g, cap, cur, rfl, hg, hh, r⟩
  exact ⟨g, cap, cur, rfl, hg, (hb.block g (Array.getElem?_eq_some_iff.1 hh).1).trans hh, r⟩
section
variable {w wr w' : World} {s3 s4 v' : Value} {C D m : List ByteArray}
theorem TwoR.below (h : TwoR w wr s3 C s4 D) (hb : Below wr.heap.size wr w') : TwoR w w' s3 C s4 D :=
  ⟨ownRow_low h.c hb, ownRow_low h.d hb, h.ne, h.bel.trans (hb.mono h.bel.size)⟩
theorem TwoR.app3 (h : TwoR w wr s3 C s4 D) (hown : OwnStrs w.heap.size w' v' (C ++ m)) (hg : wr.grownBy w' s3.ownBlock) (hat : v'.ownBlock = s3.ownBlock ∨ v'.ownBlock = some wr.heap.size) : TwoR w w' v' (C ++ m) s4 D := by
  obtain ⟨a, b, h3, h4, hne⟩ := h.ne
  have hbl := (World.ownsRow.lt h.d b h4).2
  refine ⟨hown, ownRow_kept h.d hg (.inr (by rw [h3, h4]; simpa using fun e => hne e.symm)), ?_, h.bel.grown hg h.bel.size (fun k hk => (World.ownsRow.lt h.c k hk).1)⟩
  rcases hat with e | e
  · exact ⟨a, b, e.trans h3, h4, hne⟩
  · exact ⟨_, b, e, h4, by omega⟩
theorem TwoR.app4 (h : TwoR w wr s3 C s4 D) (hown : OwnStrs w.heap.size w' v' (D ++ m)) (hg : wr.grownBy w' s4.ownBlock) (hat : v'.ownBlock = s4.ownBlock ∨ v'.ownBlock = some wr.heap.size) : TwoR w w' s3 C v' (D ++ m) := by
  obtain ⟨a, b, h3, h4, hne⟩ := h.ne
  have hal := (World.ownsRow.lt h.c a h3).2
  refine ⟨ownRow_kept h.c hg (.inr (by rw [h3, h4]; simpa using hne)), hown, ?_, h.bel.grown hg h.bel.size (fun k hk => (World.ownsRow.lt h.d k hk).1)⟩
  rcases hat with e | e
  · exact ⟨a, b, h3, e.trans h4, hne⟩
  · exact ⟨a, _, h3, e, by omega⟩
theorem TwoR.zero (w : World) : TwoR w ((w.alloc (.cells #[] 9)).alloc (.cells #[] 9)) (.slice (some ⟨w.heap.size, 0, none⟩) 0 0) [] (.slice (some ⟨w.heap.size + 1, 0, none⟩) 0 0) [] := by
  have r1 := World.ownsRow_made (base := w.heap.size) (e := 9) (size := 1) w #[] 0 (Nat.le_refl _) (by decide) rfl
  have r2 := World.ownsRow_made (base := w.heap.size) (e := 9) (size := 1) (w.alloc (.cells #[] 9)) #[] 0 (by simp) (by decide) rfl
  rw [World.size_alloc] at r2
  exact ⟨World.ownsRow.alloc r1 _, r2, ⟨w.heap.size, w.heap.size + 1, rfl, rfl, by omega⟩, ((Below.refl _ _).alloc (Nat.le_refl _) _).alloc (by simp) _⟩
end
theorem wpList_append_strs3 {ops : Array Oper} {rest : List Oper} {o : Oper} {a : Act} {w : World} {Q : Exit → Act → World → Prop} (hgd : o.guard = none) (s x : Operand)
    (ho : o.op = .call { callee := .builtin .append, args := #[s, x], argTypes := #[22, 22] })
    {base : Nat} {v : Value} {l : List ByteArray} (hs : a.eval s = v) (hown : OwnStrs base w v l) {u : Value} {m : List ByteArray} (hx : a.eval x = u) (hu : Strs w u m)
    (hn : l.length + m.length ≤ 1000000) (hbase : base ≤ w.heap.size)
    (h : ∀ v' w', OwnStrs base w' v' (l ++ m) → w.grownBy w' v.ownBlock → (v'.ownBlock = v.ownBlock ∨ v'.ownBlock = some w.heap.size) → wpList Try.prog ops Q rest (a.put o.dst v') w') : wpList Try.prog ops Q (o :: rest) a w := by
  obtain ⟨i0, hi, hz0, hz1, hz2⟩ := info_parts Try.infoStrS
  refine wpList_append_slc hgd s x 22 ho base 9 i0 (.string ⟨#[]⟩) 1 16 Try.underlying22 hi hz0 hz1 hz2 rfl (by decide) v l.length (strCells l) hs hown u m.length (strCells m) hx hu.slc (by simp [strCells, Value.oneCell']) (by unfold maxLen; omega) (by omega) hbase ?_
  intro v' w' hown' hg hat
  refine h v' w' ?_ hg hat
  unfold OwnStrs
  rw [List.length_append]
  simpa [strCells] using hown'

/-- The chunks of all contents. -/
def chunksAll (l : List ByteArray) : List ByteArray := l.flatMap chunksOf
theorem length_chunkS (m : List UInt8) : (chunkS m).length ≤ m.length := by
  unfold chunkS
  rw [List.length_map]
  exact Chunk.split_length m
theorem length_pieces : ∀ gs : List Seg, (gs.flatMap fun g => chunkS g.2).length ≤ (expand gs).length
  | [] => by simp
  | g :: gs => by
    have h1 := length_pieces gs
    have h2 := length_chunkS g.2
    rw [List.flatMap_cons, expand_cons, List.length_append]
    simp only [List.length_append, List.length_replicate] at *
    omega
theorem length_chunksOf (c : ByteArray) : (chunksOf c).length ≤ c.size := by
  have h := length_pieces (segs c.data.toList)
  rw [expand_segs] at h
  simpa [chunksOf] using h
theorem length_chunksAll : ∀ l : List ByteArray, (chunksAll l).length ≤ bytesS l
  | [] => by simp [chunksAll]
  | c :: l => by
    have h1 := length_chunksAll l
    have h2 := length_chunksOf c
    simp only [chunksAll, List.flatMap_cons, List.length_append, bytesS, List.map_cons, List.sum_cons] at *
    omega
theorem size_chunkS {m : List UInt8} {x : ByteArray} (h : x ∈ chunkS m) : x.size ≤ m.length := by
  have h2 := bytesS_chunks m
  obtain ⟨i, hi⟩ := List.mem_iff_getElem?.1 h
  have h3 : bytesS (chunkS m) = bytesS ((chunkS m).take i) + bytesS ((chunkS m).drop i) := by
    unfold bytesS
    rw [← List.sum_append, ← List.map_append, List.take_append_drop]
  have h4 := bytesS_drop hi
  omega
theorem size_pieces : ∀ (gs : List Seg) (x : ByteArray), (x ∈ gs.flatMap fun g => chunkS g.2) → x.size ≤ (expand gs).length
  | [], x, h => by simp at h
  | g :: gs, x, h => by
    rw [expand_cons, List.length_append]
    rw [List.flatMap_cons, List.mem_append] at h
    rcases h with h | h
    · have := size_chunkS h
      simp only [List.length_append] at *
      omega
    · have := size_pieces gs x h
      omega
theorem size_chunksOf {c x : ByteArray} (h : x ∈ chunksOf c) : x.size ≤ c.size := by
  have h := size_pieces (segs c.data.toList) x h
  rw [expand_segs] at h
  simpa using h
/-- No two different ones of the first n have one digest. -/
def Apart (C : List ByteArray) (n : Nat) : Prop := ∀ i k x y, i < n → k < i → C[k]? = some x → C[i]? = some y → dig x = dig y → x = y
theorem Apart.inj {C : List ByteArray} (h : Apart C C.length) : Inj (· ∈ C) := fun s t hs ht hd => by
  obtain ⟨i, hi⟩ := List.mem_iff_getElem?.1 hs
  obtain ⟨k, hk⟩ := List.mem_iff_getElem?.1 ht
  have hil := (List.getElem?_eq_some_iff.1 hi).1
  have hkl := (List.getElem?_eq_some_iff.1 hk).1
  rcases Nat.lt_trichotomy i k with h1 | h1 | h1
  · exact h k i s t hkl h1 hi hk hd
  · subst h1; rw [hi] at hk; exact Option.some.inj hk
  · exact (h i k t s hil h1 hk hi hd.symm).symm

def CollidesIs (l : List ByteArray) (b : Bool) : Prop := b = false → Inj (· ∈ chunksAll l)
def CollidesPost (l : List ByteArray) (e : Ending) : Prop := ∃ b, e = .returned (.bool b) ∧ CollidesIs l b
theorem collidesYes (l : List ByteArray) : CollidesPost l (.returned (.bool true)) := ⟨true, rfl, fun h => by cases h⟩

set_option maxHeartbeats 4000000 in
theorem collides_any {w : World} {v : Value} {l : List ByteArray} (hS : Strs w v l) (htot : bytesS l ≤ 100000) :
    Calls Try.prog 20 #[v] w fun e w' => CollidesPost l e ∧ Below w.heap.size w w' := by
  obtain ⟨a, cap, rfl, h1, h2, h3⟩ := hS.at
  have H3 := Keep.mk h3
  clear hS h3
  unfold maxLen at h2
  have HL := Keep.mk (length_chunksAll l)
  go_enter Try.func20, Try.ntmps20
  go_upto_region 2 with (fail)
  have H0 := Keep.mk (TwoR.zero w)
  generalize ((w.alloc (.cells #[] 9)).alloc (.cells #[] 9)) = w0 at *
  go_wp2_with fail
  go_loopw [5, 3] (fun i s3 wr => ∃ k : Nat, k ≤ l.length ∧ i = .int .i64 k ∧ Keep (TwoR w wr s3 (chunksAll (l.take k)) (.slice (some ⟨w.heap.size + 1, 0, none⟩) 0 0) [])) (fun i _ _ => l.length - (intOf i).toNat)
  case atStart => exact ⟨0, Nat.zero_le _, rfl, H0⟩
  case round =>
    obtain ⟨k, hk, rfl, HT⟩ := hrel
    clear H0
    by_cases hlt : k < l.length
    · have k0 : (0 : Int) ≤ k := by omega
      have k1 : (k : Int) < l.length := by omega
      obtain ⟨x, hxk⟩ : ∃ x, l[k]? = some x := ⟨_, List.getElem?_eq_getElem hlt⟩
      obtain ⟨b, o, rfl, hb, c0⟩ := H3.out k x hxk
      have d0 := (HT.out.bel.cell (p := ⟨b, o + k, none⟩) hb).trans c0
      have hbw : b < wr.heap.size := Nat.lt_of_lt_of_le hb HT.out.bel.size
      have hxz : x.size ≤ 100000 := by have := bytesS_drop hxk; have h4 : bytesS l = bytesS (l.take k) + bytesS (l.drop k) := (by unfold bytesS; rw [← List.sum_append, ← List.map_append, List.take_append_drop]); omega
      have HCT : Keep (chunksAll (l.take (k + 1)) = chunksAll (l.take k) ++ chunksOf x) := ⟨by rw [List.take_add_one, hxk]; simp [chunksAll]⟩
      have HCL : Keep ((chunksAll (l.take k)).length + (chunksOf x).length ≤ 100000) := ⟨by
        have h5 := length_chunksAll (l.take (k + 1))
        rw [HCT.out, List.length_append] at h5
        have h4 : bytesS l = bytesS (l.take (k + 1)) + bytesS (l.drop (k + 1)) := (by unfold bytesS; rw [← List.sum_append, ← List.map_append, List.take_append_drop])
        omega⟩
      clear hxk c0
      go_wp2_with fail
      refine (refSegs_own x wr (by omega)).mono ?_
      rintro e w4 ⟨sv, rfl, hsv, hb4⟩
      obtain ⟨sa, sc, rfl⟩ := ownsRow_slice hsv
      have HT4 := Keep.mk (HT.out.below hb4)
      have HSV := Keep.mk hsv
      have hch : chunksOf x = (segs x.data.toList).flatMap fun g => chunkS g.2 := rfl
      have hsl : (segs x.data.toList).length ≤ 100000 := by have := length_segs x.data.toList; simp at this; omega
      have HXP : Keep (∀ g ∈ segs x.data.toList, g.2.length ≤ 100000) := ⟨fun g hg => by
        have h6 : ∀ (gs : List Seg), g ∈ gs → g.2.length ≤ (expand gs).length := fun gs hg => by
          induction gs with
          | nil => cases hg
          | cons y gs ih =>
            rw [expand_cons, List.length_append]
            simp only [List.length_append]
            rcases List.mem_cons.1 hg with rfl | h
            · omega
            · have := ih h; omega
        have := h6 _ hg
        rw [expand_segs] at this
        simp at this
        omega⟩
      rw [hch] at HCT HCL
      clear hsv hb4 HT hch d0 hbw
      generalize hwo : wr = wo at *
      generalize segs x.data.toList = gs at *
      generalize hB : chunksAll (l.take k) = B at *
      have HBk := Keep.mk hB
      clear hB
      go_wp2_with fail
      go_loopw [7, 3] (fun i s3 wr => ∃ j : Nat, j ≤ gs.length ∧ i = .int .i64 j ∧ Keep (TwoR w wr s3 (B ++ (gs.take j).flatMap fun g => chunkS g.2) (.slice (some ⟨w.heap.size + 1, 0, none⟩) 0 0) []) ∧
        Keep (wr.ownsRow wo.heap.size 50 2 (.slice sa gs.length sc) gs.length (segCells gs))) (fun i _ _ => gs.length - (intOf i).toNat)
      case atStart => exact ⟨0, Nat.zero_le _, rfl, ⟨by simpa using HT4.out⟩, HSV⟩
      case round =>
        obtain ⟨j, hj, rfl, HR, HSR⟩ := hrel
        by_cases hltj : j < gs.length
        · have j0 : (0 : Int) ≤ j := by omega
          have j1 : (j : Int) < gs.length := by omega
          have hsg := Segs.of_owns HSR.out
          obtain ⟨a', c', hv', hc1, hc2, hparts⟩ := hsg.parts
          simp only [Value.slice.injEq, true_and] at hv'
          obtain ⟨rfl, rfl⟩ := hv'
          obtain ⟨g, hgj⟩ : ∃ g, gs[j]? = some g := ⟨_, List.getElem?_eq_getElem hltj⟩
          obtain ⟨b2, o2, rfl, hb2, x0, x1⟩ := hparts j g hgj
          have hgl := HXP.out g (List.mem_of_getElem? hgj)
          have hnext : Keep ((gs.take (j + 1)).flatMap (fun g => chunkS g.2) = (gs.take j).flatMap (fun g => chunkS g.2) ++ chunkS g.2) := ⟨by rw [List.take_add_one, hgj]; simp⟩
          have hcount : ((gs.take j).flatMap fun g => chunkS g.2).length + (chunkS g.2).length ≤ (gs.flatMap fun g => chunkS g.2).length := by
            have h7 : (gs.flatMap fun g => chunkS g.2) = (gs.take (j + 1)).flatMap (fun g => chunkS g.2) ++ (gs.drop (j + 1)).flatMap (fun g => chunkS g.2) := by rw [← List.flatMap_append, List.take_append_drop]
            rw [h7, hnext.out, List.length_append, List.length_append]; omega
          have hBl := HCL.out
          have hms : (mkS g.2).size ≤ 1000000 := by rw [size_mkS]; omega
          unfold maxLen at hc2
          clear hsg hparts hgj
          go_wp2_with fail
          refine (refSplit_any (mkS g.2) _ hms).mono ?_
          rintro e w5 ⟨chv, rfl, hch, hb5⟩
          rw [data_mkS] at hch
          have HR5 := Keep.mk (HR.out.below hb5)
          have HSR5 := Keep.mk (ownRow_low HSR.out hb5)
          have HCS : Keep (Strs w5 chv (chunkS g.2)) := ⟨Strs.of_owns hch⟩
          obtain ⟨cha, chc, rfl⟩ := ownsRow_slice hch
          clear hch hb5 HR HSR x0 x1 hms
          go_wp2_with (at_builtin; go_must (refine wpList_append_strs3 rfl _ _ rfl rfl HR5.out.c rfl HCS.out (by rw [List.length_append]; omega) HR5.out.bel.size ?_); intro v6 w6 ho6 hg6 hat6; have HR6 := Keep.mk (HR5.out.app3 ho6 hg6 hat6); have HSR6 := Keep.mk ((OnlyT.grown (OnlyT.refl [9] _) HR5.out.c hg6 (by simp)).row HSR5.out (by decide)); clear ho6 hg6 hat6)
          go_roundw
          case rel => exact ⟨j + 1, by omega, by go_num, ⟨by rw [hnext.out, ← List.append_assoc]; exact HR6.out⟩, HSR6⟩
          case measure => simp [intOf]; omega
        · have hjg : j = gs.length := by omega
          subst hjg
          rw [List.take_length] at HR
          go_wp2_with fail
          go_roundw
          case rel => exact ⟨k + 1, by omega, by go_num, ⟨by rw [HCT.out]; exact HR.out⟩⟩
          case measure => simp [intOf]; omega
    · have hkl : k = l.length := by omega
      subst hkl
      rw [List.take_length] at HT
      have HCL := HL.out
      clear H3
      have HCZ : Keep (∀ x ∈ chunksAll l, x.size ≤ 100000) := ⟨fun x hx => by
        obtain ⟨c, hc, hxc⟩ := List.mem_flatMap.1 hx
        have h5 := size_chunksOf hxc
        have h6 : ∀ (m : List ByteArray), c ∈ m → c.size ≤ bytesS m := fun m hm => by
          induction m with
          | nil => cases hm
          | cons y m ih =>
            simp only [bytesS, List.map_cons, List.sum_cons] at *
            rcases List.mem_cons.1 hm with rfl | h
            · omega
            · have := ih h; omega
        have := h6 l hc
        omega⟩
      have HPost : Keep (∀ b, (b = false → Apart (chunksAll l) (chunksAll l).length) → CollidesPost l (.returned (.bool b))) := ⟨fun b h => ⟨b, rfl, fun hb => (h hb).inj⟩⟩
      generalize chunksAll l = C at *
      obtain ⟨ca, cc, rfl⟩ := ownsRow_slice HT.out.c
      obtain ⟨_, cc', hcv, hcc, hcm, hcp⟩ := (Strs.of_owns HT.out.c).at
      simp only [Value.slice.injEq, true_and] at hcv
      obtain ⟨rfl, rfl⟩ := hcv
      unfold maxLen at hcm
      clear hcp
      go_wp2_with fail
      go_loopw [8, 4] (fun i s4 wr => ∃ j : Nat, j ≤ C.length ∧ i = .int .i64 j ∧ Keep (TwoR w wr (.slice ca C.length cc) C s4 ((C.take j).map dig)) ∧ Keep (Apart C j)) (fun i _ _ => C.length - (intOf i).toNat)
      case atStart => exact ⟨0, Nat.zero_le _, rfl, ⟨by simpa using HT.out⟩, ⟨fun i k x y hi => absurd hi (Nat.not_lt_zero _)⟩⟩
      case round =>
        obtain ⟨j, hj, rfl, HR, HAP⟩ := hrel
        clear HT
        by_cases hltj : j < C.length
        · have j0 : (0 : Int) ≤ j := by omega
          have j1 : (j : Int) < C.length := by omega
          obtain ⟨_, _, hcv, _, _, hcp⟩ := (Strs.of_owns HR.out.c).at
          simp only [Value.slice.injEq, true_and] at hcv
          obtain ⟨rfl, rfl⟩ := hcv
          obtain ⟨x, hxj⟩ : ∃ x, C[j]? = some x := ⟨_, List.getElem?_eq_getElem hltj⟩
          obtain ⟨b2, o2, rfl, hb2, x0⟩ := hcp j x hxj
          have hxz := HCZ.out x (List.mem_of_getElem? hxj)
          have HXJ := Keep.mk hxj
          have hdt : Keep ((C.take (j + 1)).map dig = (C.take j).map dig ++ [dig x]) := ⟨by rw [List.take_add_one, hxj]; simp⟩
          have hdl : ((C.take j).map dig).length = j := by rw [List.length_map, List.length_take]; omega
          have HDL := Keep.mk hdl
          have HR1 := Keep.mk (HR.out.below ((Below.refl _ _).alloc (Nat.le_refl _) (.cells #[.string x] 9)))
          clear hcp hxj
          go_wp2_with fail
          refine (refSum_any (l := [x]) (Strs.made wr [x] 9 (show (1 : Nat) ≤ maxLen by decide)) (by simp [cat]; omega)).mono ?_
          rintro e w6 ⟨rfl, hb6⟩
          have hcatx : mkS (B2.digest (cat [x])) = dig x := by simp [cat, dig]
          rw [hcatx]
          have HR6 := Keep.mk (HR1.out.below hb6)
          have HR7 := Keep.mk (HR6.out.below ((Below.refl _ _).alloc (Nat.le_refl _) (.cells #[.string (dig x)] 9)))
          have HS7 := Keep.mk (Strs.made w6 [dig x] 9 (show (1 : Nat) ≤ maxLen by decide))
          clear hcatx hb6 HR1 HR HR6 x0
          obtain ⟨d, hd⟩ : ∃ d, d = dig x := ⟨_, rfl⟩
          rw [← hd] at hdt HR7 HS7 ⊢
          have HDG := Keep.mk hd
          clear hd
          go_wp2_with (at_builtin; go_must (refine wpList_append_strs3 rfl _ _ rfl rfl HR7.out.d rfl HS7.out (by rw [hdl]; simp; omega) HR7.out.bel.size ?_); intro v8 w8 ho8 hg8 hat8; have HR8 := Keep.mk (HR7.out.app4 ho8 hg8 hat8); clear ho8 hg8 hat8)
          rw [← hdt.out] at HR8
          clear HR7 HS7
          generalize hw8 : w8 = wb at *
          obtain ⟨da, dc, rfl⟩ := ownsRow_slice HR8.out.d
          have hdn : ((C.take (j + 1)).map dig).length = j + 1 := by rw [List.length_map, List.length_take]; omega
          rw [hdn] at HR8 ⊢
          go_wp2_with fail
          go_loopw [9] (fun i wr => ∃ m : Nat, m ≤ j ∧ i = .int .i64 m ∧ Keep (TwoR w wr (.slice (some ⟨b2, o2, none⟩) C.length cc) C (.slice da (j + 1) dc) ((C.take (j + 1)).map dig)) ∧
            Keep (∀ k y, k < m → C[k]? = some y → dig y = dig x → y = x)) (fun i _ => j - (intOf i).toNat)
          case atStart => exact ⟨0, Nat.zero_le _, rfl, HR8, ⟨fun k y hk => absurd hk (Nat.not_lt_zero _)⟩⟩
          case round =>
            obtain ⟨m, hm, rfl, HM, HQ⟩ := hrel
            clear HR8
            by_cases hltm : m < j
            · have m0 : (0 : Int) ≤ m := by omega
              have m1 : (m : Int) < (j : Int) := by omega
              have m2 : (m : Int) < C.length := by omega
              have m3 : (m : Int) < (j : Int) + 1 := by omega
              have j2 : (j : Int) < (j : Int) + 1 := by omega
              obtain ⟨y, hym⟩ : ∃ y, C[m]? = some y := ⟨_, List.getElem?_eq_getElem (by omega)⟩
              obtain ⟨_, _, hcv, _, _, hcp⟩ := (Strs.of_owns HM.out.c).at
              simp only [Value.slice.injEq, true_and] at hcv
              obtain ⟨rfl, rfl⟩ := hcv
              obtain ⟨ea, ec, hdv, hd1, hd2, hdp⟩ := (Strs.of_owns HM.out.d).at
              rw [hdn] at hdv
              simp only [Value.slice.injEq, true_and] at hdv
              obtain ⟨rfl, rfl⟩ := hdv
              have hgx : ((C.take (j + 1)).map dig)[j]? = some (dig x) := by rw [List.getElem?_map, List.getElem?_take, if_pos (by omega), HXJ.out]; rfl
              have hgy : ((C.take (j + 1)).map dig)[m]? = some (dig y) := by rw [List.getElem?_map, List.getElem?_take, if_pos (by omega), hym]; rfl
              obtain ⟨b3, o3, rfl, hb3, x1⟩ := hdp j _ hgx
              obtain ⟨_, _, e4, _, x2⟩ := hdp m _ hgy
              simp only [Option.some.injEq, Addr.mk.injEq, and_true] at e4
              obtain ⟨rfl, rfl⟩ := e4
              obtain ⟨_, _, e5, hb5, x3⟩ := hcp j x HXJ.out
              simp only [Option.some.injEq, Addr.mk.injEq, and_true] at e5
              obtain ⟨rfl, rfl⟩ := e5
              obtain ⟨_, _, e6, _, x4⟩ := hcp m y hym
              simp only [Option.some.injEq, Addr.mk.injEq, and_true] at e6
              obtain ⟨rfl, rfl⟩ := e6
              have HYM := Keep.mk hym
              unfold maxLen at hd2
              clear hgx hgy hdp hcp hym
              by_cases hde : dig y = dig x
              · have hds : ((dig y).toList == (dig x).toList) = true := by rw [toList_beq]; exact decide_eq_true hde
                by_cases hxe : y = x
                · have hxq : (y.toList == x.toList) = true := by rw [toList_beq]; exact decide_eq_true hxe
                  have hxs : (y.toList != x.toList) = false := by rw [bne, hxq]; rfl
                  have HX2 := Keep.mk hxe
                  clear hxe hde
                  go_wp2_with fail
                  go_quiet (fail)
                  go_wp2
                  have HM2 := Keep.mk (HM.out.below (below_drewN (Below.refl _ _) nq))
                  refine ⟨⟨m + 1, by omega, by go_num, HM2, ⟨fun k z hk hz hdz => ?_⟩⟩, by simp [intOf]; omega⟩
                  by_cases hkm : k < m
                  · exact HQ.out k z hkm hz hdz
                  · obtain rfl : k = m := by omega
                    rw [HYM.out] at hz
                    cases hz
                    exact HX2.out
                · have hxq : (y.toList == x.toList) = false := by rw [toList_beq]; exact decide_eq_false hxe
                  have hxs : (y.toList != x.toList) = true := by rw [bne, hxq]; rfl
                  clear hxe hde
                  have hpt := Keep.mk (HPost.out true (fun h => by cases h))
                  go_wp2_with fail
                  go_quiet (fail)
                  go_wp2
                  go_ret
                  exact ⟨hpt.out, (below_drewN HM.out.bel nq)⟩
              · have hds : ((dig y).toList == (dig x).toList) = false := by rw [toList_beq]; exact decide_eq_false hde
                have HDE := Keep.mk hde
                clear hde
                go_wp2_with fail
                go_quiet (fail)
                go_wp2
                have HM2 := Keep.mk (HM.out.below (below_drewN (Below.refl _ _) nq))
                refine ⟨⟨m + 1, by omega, by go_num, HM2, ⟨fun k z hk hz hdz => ?_⟩⟩, by simp [intOf]; omega⟩
                by_cases hkm : k < m
                · exact HQ.out k z hkm hz hdz
                · obtain rfl : k = m := by omega
                  rw [HYM.out] at hz
                  cases hz
                  exact absurd hdz HDE.out
            · have hmj : m = j := by omega
              subst hmj
              have HA2 : Keep (Apart C (m + 1)) := ⟨fun i k y z hi hk hy hz hd => by
                by_cases him : i < m
                · exact HAP.out i k y z him hk hy hz hd
                · obtain rfl : i = m := by omega
                  rw [HXJ.out] at hz
                  cases hz
                  exact HQ.out k y hk hy hd⟩
              go_wp2_with fail
              go_roundw
              case rel => exact ⟨m + 1, by omega, by go_num, HM, HA2⟩
              case measure => simp [intOf]; omega
        · have hjc : j = C.length := by omega
          subst hjc
          have hpf := Keep.mk (HPost.out false (fun _ => HAP.out))
          go_wp2_with fail
          go_ret
          exact ⟨hpf.out, HR.out.bel⟩
end Go.Proofs.Ytomlknjpaielgaa
