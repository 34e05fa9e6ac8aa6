/- What is stored again is found, with the same extents. No program in sight. -/
import Derived.Test.YtomlknjpaielgaaStoredMath
namespace Go.Proofs.Ytomlknjpaielgaa.Store
set_option maxRecDepth 100000
open Go.Proofs.Ytomlknjpaielgaa Go.Proofs.Ytomlknjpaielgaa.Sparse

theorem find_prefix {d : ByteArray} {l m : List Chk} {x : Ext} (h : find d l = some x) (hp : l <+: m) : find d m = some x := by
  obtain ⟨r, rfl⟩ := hp
  rw [find_append, h]; rfl
theorem putC_mono (ses : Int) (p : Acc) (c : ByteArray) : p.1 <+: (putC ses p c).1 := by
  cases h : find (dig c) p.1 with
  | some x => rw [putC_some h]; exact List.prefix_refl _
  | none => rw [putC_none h]; exact List.prefix_append _ _
theorem putCs_mono (ses : Int) : ∀ (ch : List ByteArray) (p : Acc), p.1 <+: (ch.foldl (putC ses) p).1
  | [], _ => List.prefix_refl _
  | c :: ch, p => (putC_mono ses p c).trans (putCs_mono ses ch _)
theorem putS_mono (ses : Int) (p : Acc) (g : Seg) : p.1 <+: (putS ses p g).1 := by
  unfold putS
  split
  · exact List.prefix_refl _
  · exact putCs_mono ses _ p
theorem putSs_mono (ses : Int) : ∀ (gs : List Seg) (p : Acc), p.1 <+: (gs.foldl (putS ses) p).1
  | [], _ => List.prefix_refl _
  | g :: gs, p => (putS_mono ses p g).trans (putSs_mono ses gs _)
theorem putAll_mono (ses : Int) (cs : List Chk) (st c : ByteArray) : cs <+: (putAll ses cs st c).1 := putSs_mono ses _ (cs, st, [])
theorem putC_again {ses s2 : Int} {p : Acc} {c : ByteArray} {cs2 : List Chk} (st2 : ByteArray) (h : (putC ses p c).1 <+: cs2) : putC s2 (cs2, st2, p.2.2) c = (cs2, st2, (putC ses p c).2.2) := by
  cases hf : find (dig c) p.1 with
  | some x =>
    rw [putC_some hf] at h ⊢
    exact putC_some (find_prefix hf h)
  | none =>
    rw [putC_none hf] at h ⊢
    refine putC_some (find_prefix ?_ h)
    rw [find_append, hf]
    simp [find]
theorem putCs_again {ses s2 : Int} (st2 : ByteArray) : ∀ (ch : List ByteArray) (p : Acc) (cs2 : List Chk), (ch.foldl (putC ses) p).1 <+: cs2 → ch.foldl (putC s2) (cs2, st2, p.2.2) = (cs2, st2, (ch.foldl (putC ses) p).2.2)
  | [], p, cs2, _ => rfl
  | c :: ch, p, cs2, h => by
    rw [List.foldl_cons] at h ⊢
    rw [putC_again (ses := ses) (p := p) st2 ((putCs_mono ses ch _).trans h)]
    exact putCs_again st2 ch (putC ses p c) cs2 h
theorem putS_again {ses s2 : Int} {p : Acc} {g : Seg} {cs2 : List Chk} (st2 : ByteArray) (h : (putS ses p g).1 <+: cs2) : putS s2 (cs2, st2, p.2.2) g = (cs2, st2, (putS ses p g).2.2) := by
  unfold putS at h ⊢
  split
  · rfl
  · rename_i hg
    rw [if_neg hg] at h
    exact putCs_again st2 _ p cs2 h
theorem putSs_again {ses s2 : Int} (st2 : ByteArray) : ∀ (gs : List Seg) (p : Acc) (cs2 : List Chk), (gs.foldl (putS ses) p).1 <+: cs2 → gs.foldl (putS s2) (cs2, st2, p.2.2) = (cs2, st2, (gs.foldl (putS ses) p).2.2)
  | [], p, cs2, _ => rfl
  | c :: ch, p, cs2, h => by
    rw [List.foldl_cons] at h ⊢
    rw [List.foldl_cons, putS_again (ses := ses) (p := p) st2 ((putSs_mono ses ch _).trans h)]
    exact putSs_again st2 ch (putS ses p c) cs2 h
theorem putAll_again {ses s2 : Int} {cs cs2 : List Chk} {st st2 c : ByteArray} (h : (putAll ses cs st c).1 <+: cs2) : putAll s2 cs2 st2 c = (cs2, st2, (putAll ses cs st c).2.2) :=
  putSs_again (ses := ses) st2 _ (cs, st, []) cs2 h

theorem storedK_step (f : Nat) (l : List ByteArray) (k : Nat) : storedK f l (k + 1) = (if k = f then (storedK f l k).turn else storedK f l k).put (l.getD k ⟨#[]⟩) := rfl
theorem storedK_cs_step (f : Nat) (l : List ByteArray) (k : Nat) : (storedK f l k).cs <+: (storedK f l (k + 1)).cs := by
  rw [storedK_step]
  show _ <+: (putAll _ _ _ _).1
  by_cases h : k = f
  · rw [if_pos h]; exact putAll_mono _ _ _ _
  · rw [if_neg h]; exact putAll_mono _ _ _ _
theorem storedK_cs_mono (f : Nat) (l : List ByteArray) {k n : Nat} (h : k ≤ n) : (storedK f l k).cs <+: (storedK f l n).cs := by
  induction n with
  | zero => rw [Nat.le_zero.1 h]; exact List.prefix_refl _
  | succ n ih =>
    by_cases hk : k = n + 1
    · rw [hk]; exact List.prefix_refl _
    · exact (ih (by omega)).trans (storedK_cs_step f l n)
theorem storedK_exts_step (f : Nat) (l : List ByteArray) (k : Nat) : ∃ e, (storedK f l (k + 1)).exts = (storedK f l k).exts ++ [e] := by
  rw [storedK_step]
  by_cases h : k = f
  · rw [if_pos h]; exact ⟨_, rfl⟩
  · rw [if_neg h]; exact ⟨_, rfl⟩
theorem storedK_exts_at (f : Nat) (l : List ByteArray) {k n : Nat} (h : k < n) : (storedK f l n).exts[k]? = (storedK f l (k + 1)).exts[k]? := by
  induction n with
  | zero => omega
  | succ n ih =>
    by_cases hk : k = n
    · rw [hk]
    · obtain ⟨e, he⟩ := storedK_exts_step f l n
      rw [he, List.getElem?_append_left (by rw [storedK_exts]; omega)]
      exact ih (by omega)
/-- What has been stored is stored again as it was. -/
theorem stored_again (f : Nat) (l : List ByteArray) {k n : Nat} (h : k < n) : ∃ e, (storedK f l n).exts[k]? = some e ∧
    putAll (storedK f l n).ses (storedK f l n).cs (storedK f l n).st (l.getD k ⟨#[]⟩) = ((storedK f l n).cs, (storedK f l n).st, e) := by
  have hm := storedK_cs_mono f l (k := k + 1) (n := n) (by omega)
  rw [storedK_exts_at f l h]
  rw [storedK_step] at hm ⊢
  have hl := storedK_exts f l k
  by_cases hk : k = f
  · rw [if_pos hk] at hm ⊢
    refine ⟨(putAll (storedK f l k).turn.ses (storedK f l k).turn.cs (storedK f l k).turn.st (l.getD k ⟨#[]⟩)).2.2, ?_, putAll_again hm⟩
    show ((storedK f l k).exts ++ [_])[k]? = _
    rw [List.getElem?_append_right (by omega), hl, Nat.sub_self]; rfl
  · rw [if_neg hk] at hm ⊢
    refine ⟨(putAll (storedK f l k).ses (storedK f l k).cs (storedK f l k).st (l.getD k ⟨#[]⟩)).2.2, ?_, putAll_again hm⟩
    show ((storedK f l k).exts ++ [_])[k]? = _
    rw [List.getElem?_append_right (by omega), hl, Nat.sub_self]; rfl
end Go.Proofs.Ytomlknjpaielgaa.Store
