/- Plain facts on the segments of a content: no long run of zeros in data; holes and data alternate; a run of zeros between data. No program is in sight. -/
import Derived.Test.YtgoipkilpmjecaaSparseMath
import Derived.Lib.IndexMore
namespace Go.Proofs.Ytgoipkilpmjecaa.Sparse

theorem zerosN_append : ∀ a b : List UInt8, zerosN (a ++ b) = if zerosN a = a.length then a.length + zerosN b else zerosN a
  | [], b => by simp [zerosN]
  | c :: a, b => by
    have ih := zerosN_append a b
    rw [List.cons_append]
    by_cases h : c = 0
    · have e1 : ∀ l : List UInt8, zerosN (c :: l) = zerosN l + 1 := fun l => by simp [zerosN, h]
      rw [e1, e1, ih, List.length_cons]
      by_cases e : zerosN a = a.length
      · rw [if_pos e, if_pos (by omega)]; omega
      · rw [if_neg e, if_neg (by omega)]
    · have e1 : ∀ l : List UInt8, zerosN (c :: l) = 0 := fun l => by simp [zerosN, h]
      rw [e1, e1, List.length_cons, if_neg (by omega)]
theorem zerosN_all_last : ∀ a : List UInt8, a ≠ [] → zerosN a = a.length → a.getLast? = some 0
  | [], h, _ => absurd rfl h
  | [c], _, h => by
    simp only [zerosN, List.length_cons, List.length_nil] at h
    split at h
    · rename_i e; rw [e]; rfl
    · omega
  | c :: d :: a, _, h => by
    have : zerosN (d :: a) = (d :: a).length := by
      simp only [zerosN, List.length_cons] at h ⊢
      split at h
      · omega
      · omega
    rw [List.getLast?_cons_cons]
    exact zerosN_all_last (d :: a) (by simp) this
theorem getLast_drop {a : List UInt8} {i : Nat} (h : i < a.length) : (a.drop i).getLast? = a.getLast? := by
  rw [List.getLast?_drop, if_neg (by omega)]

/-- No m consecutive zero bytes. -/
def NoRun (m : Nat) (l : List UInt8) : Prop := ∀ i, zerosN (l.drop i) < m
theorem noRun_nil {m : Nat} (h : 0 < m) : NoRun m [] := fun i => by simpa [zerosN] using h
theorem noRun_drop {m : Nat} {l : List UInt8} (h : NoRun m l) (i : Nat) : NoRun m (l.drop i) := fun j => by rw [List.drop_drop]; exact h _
theorem noRun_more {m m' : Nat} {l : List UInt8} (h : NoRun m l) (hm : m ≤ m') : NoRun m' l := fun i => Nat.lt_of_lt_of_le (h i) hm
theorem noRun_left {m : Nat} {a b : List UInt8} (h : NoRun m (a ++ b)) : NoRun m a := fun i => by
  by_cases hi : i < a.length
  · have h1 := h i
    rw [List.drop_append_of_le_length (by omega), zerosN_append] at h1
    have := zerosN_le (a.drop i)
    split at h1 <;> omega
  · have h1 := h a.length
    rw [List.drop_of_length_le (by omega)]
    simp only [zerosN]; omega
theorem noRun_right {m : Nat} {a b : List UInt8} (h : NoRun m (a ++ b)) : NoRun m b := by
  have := noRun_drop h a.length
  rwa [List.drop_left] at this
theorem noRun_zeros {m n : Nat} {a : List UInt8} (h : NoRun m a) (hl : a.getLast? ≠ some 0) (hn : n < m) : NoRun m (a ++ List.replicate n 0) := fun i => by
  by_cases hi : i < a.length
  · rw [List.drop_append_of_le_length (by omega), zerosN_append, if_neg (fun e => hl (by rw [← getLast_drop hi]; exact zerosN_all_last _ (by simp; omega) e))]
    exact h i
  · rw [List.drop_append, List.drop_of_length_le (by omega), List.nil_append]
    have := zerosN_le ((List.replicate n (0 : UInt8)).drop (i - a.length))
    simp at this ⊢
    omega
theorem noRun_one {m : Nat} {a : List UInt8} {c : UInt8} (h : NoRun m a) (hc : c ≠ 0) : NoRun m (a ++ [c]) := fun i => by
  by_cases hi : i < a.length
  · rw [List.drop_append_of_le_length (by omega), zerosN_append]
    have h1 := h i
    have h2 : zerosN [c] = 0 := by simp [zerosN, hc]
    split
    · omega
    · exact h1
  · rw [List.drop_append, List.drop_of_length_le (by omega), List.nil_append]
    have h1 := h 0
    have h2 : zerosN ([c].drop (i - a.length)) = 0 := by
      cases i - a.length with
      | zero => simp [zerosN, hc]
      | succ k => simp [zerosN]
    omega
theorem zeros_prefix : ∀ (m : Nat) (l : List UInt8), (List.replicate m 0).isPrefixOf l = decide (m ≤ zerosN l)
  | 0, l => by simp
  | m + 1, [] => by simp [zerosN, List.replicate_succ]
  | m + 1, c :: l => by
    rw [List.replicate_succ, List.isPrefixOf_cons_cons, zeros_prefix m l]
    by_cases h : c = 0
    · simp [zerosN, h]
    · have h' : ((0 : UInt8) == c) = false := by rw [beq_eq_false_iff_ne]; exact fun e => h e.symm
      simp [zerosN, h, h']
theorem contains_zeros (m : Nat) (hm : 0 < m) (l : List UInt8) : Lib.contains l (List.replicate m 0) = false ↔ NoRun m l := by
  unfold Lib.contains
  rcases Lib.index_spec l (List.replicate m 0) with ⟨h1, h2⟩ | ⟨i, h1, h2, h3, h4⟩
  · rw [h1]
    refine iff_of_true (by decide) (fun i => ?_)
    by_cases hi : i ≤ l.length
    · have := h2 i hi
      rw [Lib.occAt, zeros_prefix, decide_eq_false_iff_not] at this
      omega
    · rw [List.drop_of_length_le (by omega)]; exact hm
  · rw [h1]
    refine iff_of_false (by simp) (fun h => ?_)
    rw [Lib.occAt, zeros_prefix, decide_eq_true_eq] at h3
    have := h i
    omega

theorem head_of_zeros {r : List UInt8} (h : 0 < zerosN r) : r.head? = some 0 := by
  cases r with
  | nil => simp [zerosN] at h
  | cons c r =>
    simp only [zerosN] at h
    split at h
    · rename_i e; rw [e]; rfl
    · omega
theorem head_drop_zeros (r : List UInt8) : (r.drop (zerosN r)).head? ≠ some 0 := by
  intro h
  cases hd : r.drop (zerosN r) with
  | nil => rw [hd] at h; cases h
  | cons c t =>
    rw [hd] at h
    exact zerosN_next hd (by simpa using h)
/-- What a step takes: a run of zeros, or one other byte. -/
theorem step_takes {r : List UInt8} (e : r ≠ []) : (∃ c, c ≠ 0 ∧ r.take (stepN r) = [c]) ∨ (0 < zerosN r ∧ r.take (stepN r) = List.replicate (zerosN r) 0 ∧ (r.drop (stepN r)).head? ≠ some 0) := by
  by_cases hz : zerosN r = 0
  · cases r with
    | nil => exact absurd rfl e
    | cons c t =>
      refine .inl ⟨c, ?_, ?_⟩
      · intro hc; simp [zerosN, hc] at hz
      · simp [stepN, hz]
  · have hs : stepN r = zerosN r := by unfold stepN; omega
    refine .inr ⟨by omega, ?_, ?_⟩
    · rw [hs, take_zerosN]
    · rw [hs]; exact head_drop_zeros r

/-- The data so far and the rest; b: behind a hole. -/
structure Mid (b : Bool) (a r : List UInt8) : Prop where
  runs : NoRun 32 a
  last : a.getLast? = some 0 → r.head? ≠ some 0
  head : b = true → (a ++ r).head? ≠ some 0
theorem mid_step {b : Bool} {a r : List UInt8} (h : Mid b a r) (e : r ≠ []) (hz : ¬ 32 ≤ zerosN r) : Mid b (a ++ r.take (stepN r)) (r.drop (stepN r)) := by
  refine ⟨?_, ?_, fun hb => by rw [List.append_assoc, List.take_append_drop]; exact h.head hb⟩
  · rcases step_takes e with ⟨c, hc, ht⟩ | ⟨hp, ht, hd⟩
    · rw [ht]; exact noRun_one h.runs hc
    · rw [ht]; exact noRun_zeros h.runs (fun hl => h.last hl (head_of_zeros hp)) (by omega)
  · rcases step_takes e with ⟨c, hc, ht⟩ | ⟨hp, ht, hd⟩
    · rw [ht]; intro hl; rw [List.getLast?_append] at hl; simp at hl; exact absurd hl hc
    · exact fun _ => hd
/-- A segment as Split makes it. -/
def OkSeg (s : Seg) : Prop := (s.2 = [] → 32 ≤ s.1) ∧ (s.2 ≠ [] → s.1 = 0 ∧ NoRun 32 s.2)
/-- Two neighbors as Split makes them. -/
def Adj (s t : Seg) : Prop := (s.2 = [] ↔ t.2 ≠ []) ∧ (s.2 ≠ [] → s.2.getLast? ≠ some 0) ∧ (t.2 ≠ [] → t.2.head? ≠ some 0)
def Good : List Seg → Prop
  | [] => True
  | s :: rest => OkSeg s ∧ (∀ t r, rest = t :: r → Adj s t) ∧ Good rest
theorem head_append_ne {a r : List UInt8} (ha : a ≠ []) (h : (a ++ r).head? ≠ some 0) : a.head? ≠ some 0 := by
  cases a with
  | nil => exact absurd rfl ha
  | cons c a => simpa using h
theorem good_go (a r : List UInt8) : ∀ b, Mid b a r → Good (go a r) ∧ (b = true → ∀ t q, go a r = t :: q → t.2 ≠ [] ∧ t.2.head? ≠ some 0) := by
  refine go_ind (p := fun a r => ∀ b, Mid b a r → Good (go a r) ∧ (b = true → ∀ t q, go a r = t :: q → t.2 ≠ [] ∧ t.2.head? ≠ some 0)) ?_ ?_ ?_ a r
  · intro a b h
    rw [go_nil]
    unfold dataL
    split
    · exact ⟨trivial, fun _ t q e => by cases e⟩
    · rename_i ha
      refine ⟨⟨⟨fun e => absurd e ha, fun _ => ⟨rfl, h.runs⟩⟩, fun t q e => (by cases e), trivial⟩, fun hb t q e => ?_⟩
      cases e
      exact ⟨ha, head_append_ne ha (h.head hb)⟩
  · intro a r hz ih b h
    obtain ⟨g1, g2⟩ := ih true ⟨noRun_nil (by omega), fun e => (by cases e), fun _ => by rw [List.nil_append]; exact head_drop_zeros r⟩
    have g2 := g2 rfl
    rw [go_hole hz]
    generalize go [] (r.drop (zerosN r)) = x at *
    have hg : Good ((((zerosN r : Nat) : Int), []) :: x) := by
      refine ⟨⟨fun _ => by dsimp only; omega, fun e => absurd rfl e⟩, fun t q e => ?_, g1⟩
      obtain ⟨k1, k2⟩ := g2 t q e
      exact ⟨⟨fun _ => k1, fun _ => rfl⟩, fun e => absurd rfl e, fun _ => k2⟩
    have hr0 : r.head? = some 0 := head_of_zeros (by omega)
    unfold dataL
    split
    · rename_i ha
      refine ⟨hg, fun hb t q e => ?_⟩
      have := h.head hb
      rw [ha, List.nil_append] at this
      exact absurd hr0 this
    · rename_i ha
      refine ⟨⟨⟨fun e => absurd e ha, fun _ => ⟨rfl, h.runs⟩⟩, fun t q e => ?_, hg⟩, fun hb t q e => ?_⟩
      · cases e
        exact ⟨⟨fun e => absurd e ha, fun e => absurd rfl e⟩, fun _ hl => h.last hl hr0, fun e => absurd rfl e⟩
      · cases e
        exact ⟨ha, head_append_ne ha (h.head hb)⟩
  · intro a r e hz ih b h
    rw [go_step e hz]
    exact ih b (mid_step h e hz)
theorem good_segs (s : List UInt8) : Good (segs s) := (good_go [] s false ⟨noRun_nil (by omega), fun e => (by cases e), fun e => (by cases e)⟩).1
theorem good_at : ∀ {l : List Seg}, Good l → ∀ (i : Nat) (s : Seg), l[i]? = some s → OkSeg s
  | [], _, i, s, h => by simp at h
  | a :: l, g, 0, s, h => by
    simp only [List.getElem?_cons_zero, Option.some.injEq] at h
    subst h; exact g.1
  | a :: l, g, i + 1, s, h => good_at g.2.2 i s (by simpa using h)
theorem good_next : ∀ {l : List Seg}, Good l → ∀ (i : Nat) (s t : Seg), l[i]? = some s → l[i + 1]? = some t → Adj s t
  | [], _, i, s, t, h, _ => by simp at h
  | a :: l, g, 0, s, t, h, h' => by
    simp only [List.getElem?_cons_zero, Option.some.injEq] at h
    subst h
    cases l with
    | nil => simp at h'
    | cons c l =>
      simp only [List.getElem?_cons_succ, List.getElem?_cons_zero, Option.some.injEq] at h'
      subst h'
      exact g.2.1 c l rfl
  | a :: l, g, i + 1, s, t, h, h' => good_next g.2.2 i s t (by simpa using h) (by simpa using h')

/-- No long run: all is data. -/
theorem go_data (a r : List UInt8) : NoRun 32 r → go a r = dataL (a ++ r) := by
  refine go_ind (p := fun a r => NoRun 32 r → go a r = dataL (a ++ r)) ?_ ?_ ?_ a r
  · intro a _; rw [go_nil, List.append_nil]
  · intro a r hz _ h
    have := h 0
    rw [List.drop_zero] at this
    omega
  · intro a r e hz ih h
    rw [go_step e hz, ih (noRun_drop h _), List.append_assoc, List.take_append_drop]
/-- Data without long runs that does not end in zero goes ahead of whatever follows. -/
theorem go_front (z : List UInt8) : ∀ (n : Nat) (a r : List UInt8), r.length ≤ n → NoRun 32 r → r.getLast? ≠ some 0 → go a (r ++ z) = go (a ++ r) z
  | 0, a, r, hn, _, _ => by
    rw [List.eq_nil_of_length_eq_zero (Nat.le_zero.1 hn), List.nil_append, List.append_nil]
  | n + 1, a, r, hn, h, hl => by
    by_cases e : r = []
    · subst e; rw [List.nil_append, List.append_nil]
    · have hpos := List.length_pos_iff.2 e
      have hz0 : zerosN (r ++ z) = zerosN r := by rw [zerosN_append, if_neg (fun h' => hl (zerosN_all_last r e h'))]
      have hlt : zerosN r < 32 := by have := h 0; rwa [List.drop_zero] at this
      have hst : stepN (r ++ z) = stepN r := by unfold stepN; rw [hz0]
      have hle := stepN_le e
      have hp1 := stepN_pos r
      rw [go_step (by simp [e]) (by omega), hst, List.take_append_of_le_length hle, List.drop_append_of_le_length hle]
      rw [go_front z n _ _ (by simp only [List.length_drop]; omega) (noRun_drop h _) ?_, List.append_assoc, List.take_append_drop]
      by_cases hd : stepN r < r.length
      · rw [getLast_drop hd]; exact hl
      · rw [List.drop_of_length_le (by omega)]; simp
/-- A run of zeros between data without long runs. -/
theorem segs_run {f g : List UInt8} {n : Nat} (hf : NoRun 32 f) (hg : NoRun 32 g) (hl : f.getLast? ≠ some 0) (hh : g.head? ≠ some 0) :
    segs (f ++ (List.replicate n 0 ++ g)) = if n < 32 then dataL (f ++ (List.replicate n 0 ++ g)) else dataL f ++ (((n : Nat) : Int), []) :: dataL g := by
  have hz : zerosN (List.replicate n 0 ++ g) = n := zerosN_replicate n (fun c r' e hc => hh (by rw [e, hc]; rfl))
  unfold segs
  rw [go_front _ _ [] f (Nat.le_refl _) hf hl, List.nil_append]
  split
  · rename_i hn
    by_cases h0 : n = 0
    · subst h0
      rw [List.replicate_zero, List.nil_append, go_data _ _ hg]
    · have hne : List.replicate n (0 : UInt8) ++ g ≠ [] := by
        intro e
        have := congrArg List.length e
        simp at this; omega
      have hs : stepN (List.replicate n 0 ++ g) = n := by unfold stepN; rw [hz]; omega
      rw [go_step hne (by omega), hs, List.take_left' (by simp), List.drop_left' (by simp), go_data _ _ hg]
      simp
  · rename_i hn
    rw [go_hole (by omega), hz, List.drop_left' (by simp), go_data _ _ hg, List.nil_append]
end Go.Proofs.Ytgoipkilpmjecaa.Sparse
