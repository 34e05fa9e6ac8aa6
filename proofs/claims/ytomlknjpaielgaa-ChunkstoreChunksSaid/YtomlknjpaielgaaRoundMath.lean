/- What is stored is read back, in plain Lean: extents as parts of the streams. No program in sight. -/
import Derived.Test.YtomlknjpaielgaaStoredMath
namespace Go.Proofs.Ytomlknjpaielgaa.Store
set_option maxRecDepth 100000
open Go.Proofs.Ytomlknjpaielgaa Go.Proofs.Ytomlknjpaielgaa.Sparse

/-- The bytes of an extent. -/
def valE (A : List ByteArray) (e : Ext) : List UInt8 := if e.1 = 0 then List.replicate e.2.2.toNat 0 else ((A.getD (e.1.toNat - 1) ⟨#[]⟩).data.toList.drop e.2.1.toNat).take e.2.2.toNat
structure OkE (A : List ByteArray) (e : Ext) : Prop where
  s0 : 0 ≤ e.1
  s1 : e.1 ≤ A.length
  o0 : 0 ≤ e.2.1
  n1 : 1 ≤ e.2.2
  hole : e.1 = 0 → e.2.1 = 0
  part : e.1 ≠ 0 → e.2.1 + e.2.2 ≤ ((A.getD (e.1.toNat - 1) ⟨#[]⟩).size : Int)
def catE (A : List ByteArray) (l : List Ext) : List UInt8 := l.flatMap (valE A)
theorem OkE.length {A : List ByteArray} {e : Ext} (h : OkE A e) : (valE A e).length = e.2.2.toNat := by
  unfold valE
  split
  · simp
  · rename_i h0
    have h1 := h.part h0
    have h2 := h.o0
    have h3 := h.n1
    rw [List.length_take, List.length_drop]
    have h4 : (A.getD (e.1.toNat - 1) ⟨#[]⟩).data.toList.length = (A.getD (e.1.toNat - 1) ⟨#[]⟩).size := by simp
    omega

/-- Every stream of A is a head of B's. -/
def Grows (A B : List ByteArray) : Prop := A.length ≤ B.length ∧ ∀ i, i < A.length → ∃ r : List UInt8, (B.getD i ⟨#[]⟩).data.toList = (A.getD i ⟨#[]⟩).data.toList ++ r
theorem Grows.refl (A : List ByteArray) : Grows A A := ⟨Nat.le_refl _, fun i _ => ⟨[], by simp⟩⟩
theorem Grows.trans {A B C : List ByteArray} (h : Grows A B) (h' : Grows B C) : Grows A C :=
  ⟨Nat.le_trans h.1 h'.1, fun i hi => by
    obtain ⟨r, hr⟩ := h.2 i hi
    obtain ⟨s, hs⟩ := h'.2 i (Nat.lt_of_lt_of_le hi h.1)
    exact ⟨r ++ s, by rw [hs, hr, List.append_assoc]⟩⟩
theorem Grows.last (E : List ByteArray) (s r : ByteArray) : Grows (E ++ [s]) (E ++ [s ++ r]) :=
  ⟨by simp, fun i hi => by
    rw [List.length_append, List.length_singleton] at hi
    by_cases h : i < E.length
    · exact ⟨[], by simp [List.getD_eq_getElem?_getD, List.getElem?_append_left h]⟩
    · obtain rfl : i = E.length := by omega
      exact ⟨r.data.toList, by simp [List.getD_eq_getElem?_getD]⟩⟩
theorem Grows.new (E : List ByteArray) (s : ByteArray) : Grows E (E ++ [s]) :=
  ⟨by simp, fun i hi => ⟨[], by simp [List.getD_eq_getElem?_getD, List.getElem?_append_left hi]⟩⟩
theorem Grows.ok {A B : List ByteArray} (h : Grows A B) {e : Ext} (he : OkE A e) : OkE B e ∧ valE B e = valE A e := by
  have h1 := h.1
  by_cases h0 : e.1 = 0
  · exact ⟨⟨he.s0, by have := he.s1; omega, he.o0, he.n1, he.hole, fun h => absurd h0 h⟩, by simp [valE, h0]⟩
  · have a1 := he.s0
    have a2 := he.s1
    have a3 := he.part h0
    obtain ⟨r, hr⟩ := h.2 (e.1.toNat - 1) (by omega)
    have hl := congrArg List.length hr
    have hsz : ∀ b : ByteArray, b.data.toList.length = b.size := fun b => by simp
    rw [List.length_append, hsz, hsz] at hl
    have hn := he.n1
    have ho := he.o0
    refine ⟨⟨he.s0, by omega, he.o0, he.n1, he.hole, fun _ => by omega⟩, ?_⟩
    unfold valE
    rw [if_neg h0, if_neg h0, hr, List.drop_append_of_le_length (by rw [hsz]; omega), List.take_append_of_le_length (by rw [List.length_drop, hsz]; omega)]
theorem Grows.all {A B : List ByteArray} (h : Grows A B) {l : List Ext} (hl : ∀ e ∈ l, OkE A e) : (∀ e ∈ l, OkE B e) ∧ catE B l = catE A l := by
  refine ⟨fun e he => (h.ok (hl e he)).1, ?_⟩
  unfold catE
  induction l with
  | nil => rfl
  | cons e l ih => rw [List.flatMap_cons, List.flatMap_cons, (h.ok (hl e (List.mem_cons_self ..))).2, ih (fun x hx => hl x (List.mem_cons_of_mem _ hx))]
theorem catE_append (A : List ByteArray) (l m : List Ext) : catE A (l ++ m) = catE A l ++ catE A m := by simp [catE]
theorem catE_one (A : List ByteArray) (e : Ext) : catE A [e] = valE A e := by simp [catE]

theorem grow_ok {A : List ByteArray} {y x : Ext} (hy : OkE A y) (hx : OkE A x) (hj : joins y x = true) : OkE A (grow y x) ∧ valE A (grow y x) = valE A y ++ valE A x := by
  simp only [joins, Bool.and_eq_true, decide_eq_true_eq] at hj
  obtain ⟨h0, h1, h2⟩ := hj
  have hy0 : y.1 ≠ 0 := by omega
  have a := hx.part h0
  have ha := hy.part hy0
  have b := hy.n1
  have c := hx.n1
  have d := hy.o0
  obtain ⟨ys, yo, yn⟩ := y
  obtain ⟨xs, xo, xn⟩ := x
  simp only at *
  subst h1
  subst h2
  refine ⟨⟨hy.s0, hy.s1, hy.o0, by show 1 ≤ yn + xn; omega, fun h => absurd h hy0, fun _ => by simp only [grow]; omega⟩, ?_⟩
  unfold valE
  rw [if_neg (show ¬ (grow (ys, yo, yn) (ys, yo + yn, xn)).1 = 0 from hy0), if_neg (show ¬ ((ys, yo, yn) : Ext).1 = 0 from hy0), if_neg (show ¬ ((ys, yo + yn, xn) : Ext).1 = 0 from hy0)]
  show List.take (yn + xn).toNat (List.drop yo.toNat (A.getD (ys.toNat - 1) ⟨#[]⟩).data.toList) = List.take yn.toNat (List.drop yo.toNat (A.getD (ys.toNat - 1) ⟨#[]⟩).data.toList) ++ List.take xn.toNat (List.drop (yo + yn).toNat (A.getD (ys.toNat - 1) ⟨#[]⟩).data.toList)
  rw [show (yn + xn).toNat = yn.toNat + xn.toNat by omega, show (yo + yn).toNat = yo.toNat + yn.toNat by omega, List.take_add, List.drop_drop]
theorem addE_ok {A : List ByteArray} {l : List Ext} {x : Ext} (hl : ∀ e ∈ l, OkE A e) (hx : OkE A x) : (∀ e ∈ addE l x, OkE A e) ∧ catE A (addE l x) = catE A l ++ valE A x := by
  rcases List.eq_nil_or_concat l with rfl | ⟨l', y, rfl⟩
  · rw [addE_nil]
    exact ⟨fun e he => by rw [List.mem_singleton] at he; subst he; exact hx, by rw [catE_one]; rfl⟩
  · rw [List.concat_eq_append] at *
    rw [addE_snoc]
    by_cases hj : joins y x = true
    · rw [if_pos hj]
      obtain ⟨g1, g2⟩ := grow_ok (hl y (by simp)) hx hj
      refine ⟨fun e he => ?_, by rw [catE_append, catE_append, catE_one, catE_one, g2, List.append_assoc]⟩
      rcases List.mem_append.1 he with h | h
      · exact hl e (by simp [h])
      · rw [List.mem_singleton] at h; subst h; exact g1
    · rw [if_neg hj]
      refine ⟨fun e he => ?_, by rw [catE_append, catE_one]⟩
      rcases List.mem_append.1 he with h | h
      · exact hl e h
      · rw [List.mem_singleton] at h; subst h; exact hx

/-- The chunks that are known are texts of U, and lie in the streams. -/
def Knows (U : ByteArray → Prop) (A : List ByteArray) (cs : List Chk) : Prop := ∀ c ∈ cs, ∃ t : ByteArray, U t ∧ c.1 = dig t ∧ OkE A c.2 ∧ valE A c.2 = t.data.toList
def Inj (U : ByteArray → Prop) : Prop := ∀ s t, U s → U t → dig s = dig t → s = t
theorem Knows.grows {U : ByteArray → Prop} {A B : List ByteArray} {cs : List Chk} (h : Knows U A cs) (hg : Grows A B) : Knows U B cs := fun c hc => by
  obtain ⟨t, h1, h2, h3, h4⟩ := h c hc
  exact ⟨t, h1, h2, (hg.ok h3).1, (hg.ok h3).2.trans h4⟩
/-- What holds while a content is stored: E are the ended sessions' streams. -/
structure Along (U : ByteArray → Prop) (E : List ByteArray) (p : Acc) (done : List UInt8) : Prop where
  knows : Knows U (E ++ [p.2.1]) p.1
  ok : ∀ e ∈ p.2.2, OkE (E ++ [p.2.1]) e
  cat : catE (E ++ [p.2.1]) p.2.2 = done
theorem Along.chunk {U : ByteArray → Prop} {E : List ByteArray} {p : Acc} {done : List UInt8} {x : ByteArray} (h : Along U E p done) (hU : Inj U) (hx : U x) (h1 : 1 ≤ x.size) :
    Along U E (putC ((E.length : Int) + 1) p x) (done ++ x.data.toList) ∧ Grows (E ++ [p.2.1]) (E ++ [(putC ((E.length : Int) + 1) p x).2.1]) := by
  cases hf : find (dig x) p.1 with
  | some y =>
    rw [putC_some hf]
    obtain ⟨t, t1, t2, t3, t4⟩ := h.knows _ (find_mem hf)
    obtain rfl : x = t := hU x t hx t1 t2
    obtain ⟨a1, a2⟩ := addE_ok h.ok t3
    exact ⟨⟨h.knows, a1, by rw [a2, h.cat, t4]⟩, Grows.refl _⟩
  | none =>
    rw [putC_none hf]
    have hg : Grows (E ++ [p.2.1]) (E ++ [p.2.1 ++ x]) := Grows.last E p.2.1 x
    have hgd : (E ++ [p.2.1 ++ x]).getD (((E.length : Int) + 1).toNat - 1) ⟨#[]⟩ = p.2.1 ++ x := by
      rw [show ((E.length : Int) + 1).toNat - 1 = E.length by omega]
      simp [List.getD_eq_getElem?_getD]
    have hne : ((E.length : Int) + 1) ≠ 0 := by omega
    have hok : OkE (E ++ [p.2.1 ++ x]) ((E.length : Int) + 1, (p.2.1.size : Int), (x.size : Int)) :=
      ⟨by show 0 ≤ (E.length : Int) + 1; omega, by simp, by show 0 ≤ (p.2.1.size : Int); omega, by show 1 ≤ (x.size : Int); omega, fun h => absurd h hne, fun _ => by
        show (p.2.1.size : Int) + (x.size : Int) ≤ (((E ++ [p.2.1 ++ x]).getD (((E.length : Int) + 1).toNat - 1) ⟨#[]⟩).size : Int)
        rw [hgd, ByteArray.size_append]; omega⟩
    have hval : valE (E ++ [p.2.1 ++ x]) ((E.length : Int) + 1, (p.2.1.size : Int), (x.size : Int)) = x.data.toList := by
      unfold valE
      rw [if_neg hne, hgd]
      have hs : ∀ b : ByteArray, b.data.toList.length = b.size := fun b => by simp
      simp only [Int.toNat_natCast, ByteArray.data_append, Array.toList_append]
      rw [List.drop_append_of_le_length (by rw [hs]; exact Nat.le_refl _), List.drop_of_length_le (by rw [hs]; exact Nat.le_refl _), List.nil_append, List.take_of_length_le (by rw [hs]; exact Nat.le_refl _)]
    obtain ⟨b1, b2⟩ := hg.all h.ok
    obtain ⟨a1, a2⟩ := addE_ok b1 hok
    refine ⟨⟨fun c hc => ?_, a1, by rw [a2, b2, h.cat, hval]⟩, hg⟩
    rcases List.mem_append.1 hc with hc | hc
    · exact h.knows.grows hg c hc
    · rw [List.mem_singleton] at hc
      subst hc
      exact ⟨x, hx, rfl, hok, hval⟩
theorem Along.chunks {U : ByteArray → Prop} {E : List ByteArray} (hU : Inj U) : ∀ (ch : List ByteArray) (p : Acc) (done : List UInt8), Along U E p done → (∀ x ∈ ch, U x ∧ 1 ≤ x.size) →
    Along U E (ch.foldl (putC ((E.length : Int) + 1)) p) (done ++ ch.flatMap (·.data.toList)) ∧ Grows (E ++ [p.2.1]) (E ++ [(ch.foldl (putC ((E.length : Int) + 1)) p).2.1])
  | [], p, done, h, _ => by simpa using ⟨h, Grows.refl _⟩
  | x :: ch, p, done, h, hc => by
    obtain ⟨h1, h2⟩ := hc x (List.mem_cons_self ..)
    obtain ⟨a, b⟩ := h.chunk hU h1 h2
    obtain ⟨c, d⟩ := Along.chunks hU ch _ _ a (fun y hy => hc y (List.mem_cons_of_mem _ hy))
    rw [List.foldl_cons, List.flatMap_cons, ← List.append_assoc]
    exact ⟨c, b.trans d⟩
theorem flat_chunkS (m : List UInt8) : (chunkS m).flatMap (·.data.toList) = m := by
  unfold chunkS
  rw [List.flatMap_map]
  simp only [data_mkS]
  rw [List.flatMap_id', Chunk.split_flatten]
theorem Along.pieces {U : ByteArray → Prop} {E : List ByteArray} (hU : Inj U) : ∀ (gs : List Seg) (p : Acc) (done : List UInt8), Along U E p done → (∀ g ∈ gs, (g.2 ≠ [] ∧ g.1 = 0) ∨ (g.2 = [] ∧ 32 ≤ g.1)) → (∀ g ∈ gs, ∀ x ∈ chunkS g.2, U x) →
    Along U E (gs.foldl (putS ((E.length : Int) + 1)) p) (done ++ expand gs) ∧ Grows (E ++ [p.2.1]) (E ++ [(gs.foldl (putS ((E.length : Int) + 1)) p).2.1])
  | [], p, done, h, _, _ => by simpa [expand] using ⟨h, Grows.refl _⟩
  | g :: gs, p, done, h, hg, hu => by
    have key : ∃ q : List UInt8, expand (g :: gs) = q ++ expand gs ∧ Along U E (putS ((E.length : Int) + 1) p g) (done ++ q) ∧ Grows (E ++ [p.2.1]) (E ++ [(putS ((E.length : Int) + 1) p g).2.1]) := by
      unfold putS
      rcases hg g (List.mem_cons_self ..) with ⟨h1, h2⟩ | ⟨h1, h2⟩
      · rw [if_neg h1]
        obtain ⟨a, b⟩ := Along.chunks hU (chunkS g.2) p done h (fun x hx => ⟨hu g (List.mem_cons_self ..) x hx, chunkS_pos g.2 x hx⟩)
        rw [flat_chunkS] at a
        exact ⟨g.2, by rw [expand_cons, h2]; simp, a, b⟩
      · rw [if_pos h1]
        have hx : OkE (E ++ [p.2.1]) (0, 0, g.1) := ⟨Int.le_refl _, by simp; omega, Int.le_refl _, by show 1 ≤ g.1; omega, fun _ => rfl, fun h => absurd rfl h⟩
        obtain ⟨a1, a2⟩ := addE_ok h.ok hx
        exact ⟨List.replicate g.1.toNat 0, by rw [expand_cons, h1]; simp, ⟨h.knows, a1, by rw [a2, h.cat]; simp [valE]⟩, Grows.refl _⟩
    obtain ⟨q, e1, a, b⟩ := key
    obtain ⟨c, d⟩ := Along.pieces hU gs _ _ a (fun y hy => hg y (List.mem_cons_of_mem _ hy)) (fun y hy => hu y (List.mem_cons_of_mem _ hy))
    rw [List.foldl_cons, e1, ← List.append_assoc]
    exact ⟨c, b.trans d⟩
/-- The chunks of a content. -/
def chunksOf (c : ByteArray) : List ByteArray := (segs c.data.toList).flatMap fun g => chunkS g.2
theorem Along.all {U : ByteArray → Prop} {E : List ByteArray} {cs : List Chk} {st c : ByteArray} (hU : Inj U) (hk : Knows U (E ++ [st]) cs) (hc : ∀ x ∈ chunksOf c, U x) :
    Along U E (putAll ((E.length : Int) + 1) cs st c) c.data.toList ∧ Grows (E ++ [st]) (E ++ [(putAll ((E.length : Int) + 1) cs st c).2.1]) := by
  have h := Along.pieces hU (segs c.data.toList) (cs, st, []) [] ⟨hk, by simp, rfl⟩ (goodSeg _) (fun g hg x hx => hc x (List.mem_flatMap.2 ⟨g, hg, hx⟩))
  rw [expand_segs, List.nil_append] at h
  exact h
theorem storedK_ended (f : Nat) (l : List ByteArray) : ∀ k, (storedK f l k).ses = ((storedK f l k).streams.length : Int) + 1
  | 0 => rfl
  | k + 1 => by
    have ih := storedK_ended f l k
    have hs := storedK_ses f l k
    rw [storedK]
    show (if k = f then (storedK f l k).turn else storedK f l k).ses = ((if k = f then (storedK f l k).turn else storedK f l k).streams.length : Int) + 1
    by_cases h : k = f
    · rw [if_pos h]
      rw [if_neg (by omega)] at hs
      show (2 : Int) = (((storedK f l k).streams ++ [(storedK f l k).st]).length : Int) + 1
      rw [List.length_append, List.length_singleton]
      omega
    · rw [if_neg h]; exact ih
/-- Everything stored is read back. -/
theorem storedK_round {U : ByteArray → Prop} (hU : Inj U) {f : Nat} {l : List ByteArray} (hl : ∀ c ∈ l, ∀ x ∈ chunksOf c, U x) : ∀ k, k ≤ l.length →
    Knows U ((storedK f l k).streams ++ [(storedK f l k).st]) (storedK f l k).cs ∧
    ∀ i, i < k → ∃ e, (storedK f l k).exts[i]? = some e ∧ (∀ x ∈ e, OkE ((storedK f l k).streams ++ [(storedK f l k).st]) x) ∧ catE ((storedK f l k).streams ++ [(storedK f l k).st]) e = (l.getD i ⟨#[]⟩).data.toList
  | 0, _ => ⟨fun c hc => by simp [storedK, SSt.zero] at hc, fun i hi => absurd hi (Nat.not_lt_zero _)⟩
  | k + 1, hk => by
    obtain ⟨ih1, ih2⟩ := storedK_round hU (f := f) hl k (by omega)
    have hx := storedK_exts f l k
    have hen := storedK_ended f l (k + 1)
    rw [storedK] at hen ⊢
    generalize hq : (if k = f then (storedK f l k).turn else storedK f l k) = q at *
    have hgr : Grows ((storedK f l k).streams ++ [(storedK f l k).st]) (q.streams ++ [q.st]) ∧ q.cs = (storedK f l k).cs ∧ q.exts = (storedK f l k).exts := by
      rw [← hq]
      split
      · exact ⟨Grows.new _ _, rfl, rfl⟩
      · exact ⟨Grows.refl _, rfl, rfl⟩
    obtain ⟨g1, g2, g3⟩ := hgr
    rw [← g2] at ih1
    rw [← g3] at ih2 hx
    have hses : q.ses = (q.streams.length : Int) + 1 := hen
    have hc : ∀ x ∈ chunksOf (l.getD k ⟨#[]⟩), U x := hl _ (by rw [List.getD_eq_getElem?_getD, List.getElem?_eq_getElem (by omega)]; exact List.getElem_mem _)
    obtain ⟨a, b⟩ := Along.all (E := q.streams) (st := q.st) (c := l.getD k ⟨#[]⟩) hU (ih1.grows g1) hc
    rw [← hses] at a b
    refine ⟨a.knows, fun i hi => ?_⟩
    show ∃ e, (q.exts ++ [(putAll q.ses q.cs q.st (l.getD k ⟨#[]⟩)).2.2])[i]? = some e ∧ _
    by_cases hik : i < k
    · obtain ⟨e, e1, e2, e3⟩ := ih2 i hik
      obtain ⟨m1, m2⟩ := (g1.trans b).all e2
      exact ⟨e, by rw [List.getElem?_append_left (by omega)]; exact e1, m1, m2.trans e3⟩
    · obtain rfl : i = k := by omega
      exact ⟨_, by rw [List.getElem?_append_right (by omega), hx, Nat.sub_self]; rfl, a.ok, a.cat⟩
end Go.Proofs.Ytomlknjpaielgaa.Store
