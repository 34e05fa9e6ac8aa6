/- Contents stored one after the other, in plain Lean; bounds. No program in sight. -/
import Derived.Test.YtomlknjpaielgaaStorePut
namespace Go.Proofs.Ytomlknjpaielgaa.Store
set_option maxRecDepth 100000
open Go.Proofs.Ytomlknjpaielgaa Go.Proofs.Ytomlknjpaielgaa.Sparse

theorem fit_chunks {ses : Int} : ∀ (ch : List ByteArray) (q : Acc) (k : Nat), Fit (k + bytesS ch) q → (∀ x ∈ ch, 1 ≤ x.size) → Fit k (ch.foldl (putC ses) q)
  | [], q, k, h, _ => by simpa [bytesS] using h
  | x :: ch, q, k, h, hp => by
    rw [List.foldl_cons]
    refine fit_chunks ch _ k (Fit.chunk ?_ (hp x (List.mem_cons_self ..))) (fun y hy => hp y (List.mem_cons_of_mem _ hy))
    have e : k + bytesS (x :: ch) = k + bytesS ch + x.size := by simp only [bytesS, List.map_cons, List.sum_cons]; omega
    rwa [e] at h
theorem fit_segs {ses : Int} : ∀ (gs : List Seg) (q : Acc) (k : Nat), Fit (k + (expand gs).length) q → (∀ g ∈ gs, (g.2 ≠ [] ∧ g.1 = 0) ∨ (g.2 = [] ∧ 32 ≤ g.1)) → Fit k (gs.foldl (putS ses) q)
  | [], q, k, h, _ => by simpa [expand] using h
  | g :: gs, q, k, h, hp => by
    rw [List.foldl_cons]
    refine fit_segs gs _ k ?_ (fun y hy => hp y (List.mem_cons_of_mem _ hy))
    have e : k + (expand (g :: gs)).length = k + (expand gs).length + (g.2.length + g.1.toNat) := by rw [expand_cons]; simp; omega
    rw [e] at h
    unfold putS
    rcases hp g (List.mem_cons_self ..) with ⟨h1, h2⟩ | ⟨h1, h2⟩
    · rw [if_neg h1]
      refine fit_chunks _ _ _ ?_ (chunkS_pos _)
      rw [bytesS_chunks]
      rw [h2] at h
      simpa using h
    · rw [if_pos h1]
      rw [h1] at h
      obtain ⟨n, hn⟩ := Int.eq_ofNat_of_zero_le (show 0 ≤ g.1 by omega)
      rw [hn] at h ⊢
      exact Fit.hole (by simpa using h) (by omega)
theorem fit_putAll {ses : Int} {cs : List Chk} {st content : ByteArray} {k : Nat} (h : Fit (k + content.size) (cs, st, [])) : Fit k (putAll ses cs st content) := by
  unfold putAll
  exact fit_segs _ _ _ (by rw [expand_segs]; simpa using h) (goodSeg _)
theorem Fit.fresh {k : Nat} {p : Acc} (h : Fit k p) : Fit k (p.1, p.2.1, []) := ⟨h.chunks, h.stream, h.few, by have := h.stream; show 0 + k ≤ _; omega, by simp⟩
theorem Fit.less {k m : Nat} {cs : List Chk} {st : ByteArray} (h : Fit k (cs, st, [])) (hm : m ≤ k) : Fit m (cs, st, []) :=
  ⟨h.chunks, by have := h.stream; simp only at this ⊢; omega, by have := h.few; simp only at this ⊢; omega, by have := h.stream; simp only at this; show 0 + m ≤ _; omega, by simp⟩
theorem Fit.empty {k : Nat} {cs : List Chk} {st : ByteArray} (h : Fit k (cs, st, [])) : Fit k (cs, ⟨#[]⟩, []) :=
  ⟨h.chunks, by have := h.stream; show 0 + k ≤ _; omega, h.few, h.outs, by simp⟩

/-- A store with what has been stored: chunks, session, stream, the ended sessions' streams, the contents' extents. -/
structure SSt where
  cs : List Chk
  ses : Int
  st : ByteArray
  streams : List ByteArray
  exts : List (List Ext)
def SSt.turn (p : SSt) : SSt := ⟨p.cs, 2, ⟨#[]⟩, p.streams ++ [p.st], p.exts⟩
def SSt.put (p : SSt) (c : ByteArray) : SSt := ⟨(putAll p.ses p.cs p.st c).1, p.ses, (putAll p.ses p.cs p.st c).2.1, p.streams, p.exts ++ [(putAll p.ses p.cs p.st c).2.2]⟩
def SSt.zero : SSt := ⟨[], 1, ⟨#[]⟩, [], []⟩
/-- The state behind the first k contents, a new session begun ahead of number f. -/
def storedK (f : Nat) (l : List ByteArray) : Nat → SSt
  | 0 => SSt.zero
  | k + 1 => (if k = f then (storedK f l k).turn else storedK f l k).put (l.getD k ⟨#[]⟩)
theorem storedK_ses (f : Nat) (l : List ByteArray) : ∀ k, (storedK f l k).ses = if f < k then 2 else 1
  | 0 => by simp [storedK, SSt.zero]
  | k + 1 => by
    rw [storedK]
    show (if k = f then (storedK f l k).turn else storedK f l k).ses = _
    by_cases h : k = f
    · rw [if_pos h, if_pos (by omega)]; rfl
    · rw [if_neg h, storedK_ses f l k]
      by_cases h2 : f < k
      · rw [if_pos h2, if_pos (by omega)]
      · rw [if_neg h2, if_neg (by omega)]
theorem storedK_exts (f : Nat) (l : List ByteArray) : ∀ k, (storedK f l k).exts.length = k
  | 0 => rfl
  | k + 1 => by
    rw [storedK]
    show ((if k = f then (storedK f l k).turn else storedK f l k).exts ++ [_]).length = _
    rw [List.length_append, List.length_singleton]
    by_cases h : k = f
    · rw [if_pos h]; show (storedK f l k).exts.length + 1 = _; rw [storedK_exts f l k]
    · rw [if_neg h, storedK_exts f l k]
theorem storedK_fit {f : Nat} {l : List ByteArray} {N : Nat} (hN : bytesS l + N ≤ 1000000) : ∀ k, k ≤ l.length → Fit (bytesS (l.drop k) + N) ((storedK f l k).cs, (storedK f l k).st, [])
  | 0, _ => ⟨by simp [storedK, SSt.zero], by show 0 + _ ≤ _; rw [List.drop_zero]; omega, by show 0 + _ ≤ _; rw [List.drop_zero]; omega, by show 0 + _ ≤ _; rw [List.drop_zero]; omega, by simp⟩
  | k + 1, hk => by
    have ih := storedK_fit (f := f) hN k (by omega)
    have hd := bytesS_drop (l := l) (i := k) (s := l.getD k ⟨#[]⟩) (by rw [List.getD_eq_getElem?_getD, List.getElem?_eq_getElem (by omega)]; rfl)
    rw [hd] at ih
    rw [storedK]
    have key : ∀ q : SSt, Fit ((l.getD k ⟨#[]⟩).size + bytesS (l.drop (k + 1)) + N) (q.cs, q.st, []) → Fit (bytesS (l.drop (k + 1)) + N) ((q.put (l.getD k ⟨#[]⟩)).cs, (q.put (l.getD k ⟨#[]⟩)).st, []) := fun q hq =>
      (fit_putAll (k := bytesS (l.drop (k + 1)) + N) (by rwa [show bytesS (l.drop (k + 1)) + N + (l.getD k ⟨#[]⟩).size = (l.getD k ⟨#[]⟩).size + bytesS (l.drop (k + 1)) + N by omega])).fresh
    refine key _ ?_
    split
    · exact ih.empty
    · exact ih
end Go.Proofs.Ytomlknjpaielgaa.Store
