/- Plain facts on contents with holes: the segments of a content, what they stand for, their size and text. No program is in sight. -/
import Derived.Test.YtomlknjpaielgaaBase
namespace Go.Proofs.Ytomlknjpaielgaa.Sparse
set_option maxRecDepth 100000

/-- A segment: the number of zero bytes, the data. -/
abbrev Seg := Int × List UInt8

/-- The number of zero bytes at the beginning. -/
def zerosN : List UInt8 → Nat
  | [] => 0
  | c :: l => if c = 0 then zerosN l + 1 else 0
theorem zerosN_le : ∀ l : List UInt8, zerosN l ≤ l.length
  | [] => Nat.le_refl _
  | c :: l => by
    have := zerosN_le l
    simp only [zerosN, List.length_cons]
    split <;> omega
theorem take_zerosN : ∀ l : List UInt8, l.take (zerosN l) = List.replicate (zerosN l) 0
  | [] => rfl
  | c :: l => by
    simp only [zerosN]
    split
    · rename_i h; subst h
      rw [List.take_succ_cons, take_zerosN l, List.replicate_succ]
    · rfl
theorem zerosN_split (l : List UInt8) : l = List.replicate (zerosN l) 0 ++ l.drop (zerosN l) := by
  rw [← take_zerosN, List.take_append_drop]
theorem zerosN_next : ∀ {l : List UInt8} {c : UInt8} {r : List UInt8}, l.drop (zerosN l) = c :: r → c ≠ 0
  | [], c, r, h => by simp [zerosN] at h
  | a :: l, c, r, h => by
    simp only [zerosN] at h
    split at h
    · rw [List.drop_succ_cons] at h
      exact zerosN_next h
    · rename_i hn
      rw [List.drop_zero] at h
      cases h
      exact hn
theorem zerosN_replicate (n : Nat) {r : List UInt8} (h : ∀ c r', r = c :: r' → c ≠ 0) : zerosN (List.replicate n 0 ++ r) = n := by
  induction n with
  | zero =>
    rw [List.replicate_zero, List.nil_append]
    cases r with
    | nil => rfl
    | cons c r => simp [zerosN, h c r rfl]
  | succ n ih => rw [List.replicate_succ, List.cons_append]; simp [zerosN, ih]

/-- Data as segments: none if empty. -/
def dataL (a : List UInt8) : List Seg := if a = [] then [] else [(0, a)]
def stepN (r : List UInt8) : Nat := max (zerosN r) 1
theorem stepN_pos (r : List UInt8) : 1 ≤ stepN r := by unfold stepN; omega
theorem stepN_le {r : List UInt8} (h : r ≠ []) : stepN r ≤ r.length := by
  have := zerosN_le r
  have := List.length_pos_iff.2 h
  unfold stepN; omega

/-- The segments, n steps at the most; a is the data so far, r the rest. -/
def goN : Nat → List UInt8 → List UInt8 → List Seg
  | 0, a, _ => dataL a
  | n + 1, a, r => if r = [] then dataL a else
      if 32 ≤ zerosN r then dataL a ++ (((zerosN r : Nat) : Int), []) :: goN n [] (r.drop (zerosN r))
      else goN n (a ++ r.take (stepN r)) (r.drop (stepN r))
def go (a r : List UInt8) : List Seg := goN r.length a r
/-- The segments of a content. -/
def segs (s : List UInt8) : List Seg := go [] s

theorem goN_enough (n : Nat) : ∀ (m : Nat) (a r : List UInt8), r.length ≤ n → r.length ≤ m → goN n a r = goN m a r := by
  induction n with
  | zero => intro m a r h _; rw [List.eq_nil_of_length_eq_zero (Nat.le_zero.1 h)]; cases m <;> simp [goN]
  | succ n ih =>
    intro m a r h h'
    by_cases e : r = []
    · subst e; cases m <;> simp [goN]
    · cases m with
      | zero => exact absurd (List.eq_nil_of_length_eq_zero (Nat.le_zero.1 h')) e
      | succ m =>
        have hp := List.length_pos_iff.2 e
        have h1 := stepN_pos r
        simp only [goN, if_neg e]
        split
        · rw [ih m _ _ (by simp only [List.length_drop]; omega) (by simp only [List.length_drop]; omega)]
        · rw [ih m _ _ (by simp only [List.length_drop]; omega) (by simp only [List.length_drop]; omega)]
theorem go_nil (a : List UInt8) : go a [] = dataL a := rfl
theorem go_hole {a r : List UInt8} (h : 32 ≤ zerosN r) : go a r = dataL a ++ (((zerosN r : Nat) : Int), []) :: go [] (r.drop (zerosN r)) := by
  have hl := zerosN_le r
  have e : r ≠ [] := fun e => by rw [e] at h; simp [zerosN] at h
  unfold go
  cases hr : r.length with
  | zero => omega
  | succ n =>
    simp only [goN, if_neg e, if_pos h]
    rw [goN_enough n _ _ _ (by simp only [List.length_drop]; omega) (Nat.le_refl _)]
theorem go_step {a r : List UInt8} (e : r ≠ []) (h : ¬ 32 ≤ zerosN r) : go a r = go (a ++ r.take (stepN r)) (r.drop (stepN r)) := by
  have h1 := stepN_pos r
  unfold go
  cases hr : r.length with
  | zero => exact absurd (List.eq_nil_of_length_eq_zero hr) e
  | succ n =>
    simp only [goN, if_neg e, if_neg h]
    rw [goN_enough n _ _ _ (by simp only [List.length_drop]; omega) (Nat.le_refl _)]
/-- Induction over the rest, a step at a time. -/
theorem go_ind {p : List UInt8 → List UInt8 → Prop} (h0 : ∀ a, p a []) (h1 : ∀ a r, 32 ≤ zerosN r → p [] (r.drop (zerosN r)) → p a r)
    (h2 : ∀ a r, r ≠ [] → ¬ 32 ≤ zerosN r → p (a ++ r.take (stepN r)) (r.drop (stepN r)) → p a r) (a r : List UInt8) : p a r := by
  have : ∀ n a r, r.length ≤ n → p a r := by
    intro n
    induction n with
    | zero => intro a r h; rw [List.eq_nil_of_length_eq_zero (Nat.le_zero.1 h)]; exact h0 a
    | succ n ih =>
      intro a r h
      by_cases e : r = []
      · rw [e]; exact h0 a
      · have hp := stepN_pos r
        by_cases hz : 32 ≤ zerosN r
        · exact h1 a r hz (ih _ _ (by simp only [List.length_drop]; omega))
        · exact h2 a r e hz (ih _ _ (by simp only [List.length_drop]; omega))
  exact this _ a r (Nat.le_refl _)

/-- What segments stand for. -/
def expand (l : List Seg) : List UInt8 := l.flatMap fun s => s.2 ++ List.replicate s.1.toNat 0
theorem expand_nil : expand [] = [] := rfl
theorem expand_cons (s : Seg) (l : List Seg) : expand (s :: l) = s.2 ++ List.replicate s.1.toNat 0 ++ expand l := by simp [expand]
theorem expand_append (l m : List Seg) : expand (l ++ m) = expand l ++ expand m := by simp [expand]
theorem expand_dataL (a : List UInt8) : expand (dataL a) = a := by
  unfold dataL
  split
  · rename_i h; rw [h]; rfl
  · simp [expand]
theorem expand_go (a r : List UInt8) : expand (go a r) = a ++ r := by
  refine go_ind (p := fun a r => expand (go a r) = a ++ r) (fun a => by rw [go_nil, expand_dataL, List.append_nil]) (fun a r h ih => ?_) (fun a r e h ih => ?_) a r
  · rw [go_hole h, expand_append, expand_dataL, expand_cons, ih]
    simp only [List.nil_append, Int.toNat_natCast]
    rw [← zerosN_split]
  · rw [go_step e h, ih, List.append_assoc, List.take_append_drop]
theorem expand_segs (s : List UInt8) : expand (segs s) = s := by rw [segs, expand_go, List.nil_append]
theorem segs_inj {s t : List UInt8} (h : segs s = segs t) : s = t := by rw [← expand_segs s, h, expand_segs]

/-- A segment that is zeros or data. -/
def Fine (s : Seg) : Prop := 0 ≤ s.1 ∧ (0 < s.1 → s.2 = [])
theorem fine_dataL {a : List UInt8} : ∀ s ∈ dataL a, Fine s := by
  unfold dataL
  split
  · simp
  · intro s hs; rw [List.mem_singleton.1 hs]; exact ⟨Int.le_refl _, fun h => absurd h (by simp)⟩
theorem fine_go (a r : List UInt8) : ∀ s ∈ go a r, Fine s := by
  refine go_ind (p := fun a r => ∀ s ∈ go a r, Fine s) (fun a => by rw [go_nil]; exact fine_dataL) (fun a r h ih => ?_) (fun a r e h ih => ?_) a r
  · rw [go_hole h]
    intro s hs
    rcases List.mem_append.1 hs with hs | hs
    · exact fine_dataL s hs
    · rcases List.mem_cons.1 hs with rfl | hs
      · exact ⟨Int.natCast_nonneg _, fun _ => rfl⟩
      · exact ih s hs
  · rw [go_step e h]; exact ih
theorem length_dataL (a : List UInt8) : (dataL a).length ≤ a.length := by
  unfold dataL
  split
  · simp
  · rename_i h; have := List.length_pos_iff.2 h; simp; omega
theorem length_go (a r : List UInt8) : (go a r).length ≤ a.length + r.length := by
  refine go_ind (p := fun a r => (go a r).length ≤ a.length + r.length) (fun a => by rw [go_nil]; have := length_dataL a; omega) (fun a r h ih => ?_) (fun a r e h ih => ?_) a r
  · rw [go_hole h]
    have := length_dataL a
    have := zerosN_le r
    simp only [List.length_append, List.length_cons, List.length_nil, List.length_drop] at *
    omega
  · rw [go_step e h]
    have := stepN_le e
    simp only [List.length_append, List.length_take, List.length_drop] at *
    omega
theorem length_segs (s : List UInt8) : (segs s).length ≤ s.length := by have := length_go [] s; simpa [segs] using this

/-- The size of segments and an error's number; total is what has been counted. -/
def sizeGo (total : Int) : List Seg → Int × Int
  | [] => (total, 0)
  | s :: l => if s.1 < 0 then (0, 2) else if 0 < s.1 ∧ s.2 ≠ [] then (0, 1) else if 65536 - total < s.1 ∨ 65536 - total < (s.2.length : Int) then (0, 6) else sizeGo (total + (s.1 + s.2.length)) l
theorem length_expand_cons (s : Seg) (l : List Seg) : ((expand (s :: l)).length : Int) = s.2.length + s.1.toNat + (expand l).length := by
  rw [expand_cons]; simp; omega
theorem sizeGo_ok : ∀ (l : List Seg) (total : Int), 0 ≤ total → total ≤ 65536 → (sizeGo total l).2 = 0 → (∀ s ∈ l, Fine s) ∧ (sizeGo total l).1 = total + (expand l).length ∧ total + (expand l).length ≤ 65536
  | [], total, h0, h1, _ => ⟨by simp, by simp [sizeGo, expand_nil], by simpa [expand_nil] using h1⟩
  | s :: l, total, h0, h1, h => by
    simp only [sizeGo] at h ⊢
    split at h
    · simp at h
    · rename_i ha
      split at h
      · simp at h
      · rename_i hb
        split at h
        · simp at h
        · rename_i hc
          have hf : Fine s := ⟨by omega, fun hp => Classical.byContradiction fun hn => hb ⟨hp, hn⟩⟩
          have hz : s.1 = 0 ∨ s.2.length = 0 := by
            by_cases hp : 0 < s.1
            · exact .inr (by rw [hf.2 hp]; rfl)
            · exact .inl (by omega)
          obtain ⟨i1, i2, i3⟩ := sizeGo_ok l (total + (s.1 + s.2.length)) (by omega) (by omega) h
          have he := length_expand_cons s l
          rw [if_neg ha, if_neg hb, if_neg hc]
          refine ⟨fun t ht => ?_, by omega, by omega⟩
          rcases List.mem_cons.1 ht with rfl | ht
          · exact hf
          · exact i1 t ht
theorem sizeGo_fine : ∀ (l : List Seg) (total : Int), (∀ s ∈ l, Fine s) → 0 ≤ total → total + (expand l).length ≤ 65536 → sizeGo total l = (total + (expand l).length, 0)
  | [], total, _, _, _ => by simp [sizeGo, expand_nil]
  | s :: l, total, hf, h0, h => by
    have he := length_expand_cons s l
    have h1 := hf s (List.mem_cons_self ..)
    have hz : s.1 = 0 ∨ s.2.length = 0 := by
      by_cases hp : 0 < s.1
      · exact .inr (by rw [h1.2 hp]; rfl)
      · exact .inl (by have := h1.1; omega)
    have h10 := h1.1
    simp only [sizeGo]
    rw [if_neg (by omega), if_neg (fun hh => hh.2 (h1.2 hh.1)), if_neg (by omega), sizeGo_fine l _ (fun t ht => hf t (List.mem_cons_of_mem _ ht)) (by omega) (by omega)]
    refine Prod.ext ?_ rfl
    show total + (s.1 + s.2.length) + (expand l).length = total + (expand (s :: l)).length
    omega
theorem sizeGo_big : ∀ (l : List Seg) (total : Int), (∀ s ∈ l, Fine s) → 0 ≤ total → total ≤ 65536 → 65536 < total + (expand l).length → sizeGo total l = (0, 6)
  | [], total, _, _, h1, h => by simp [expand_nil] at h; omega
  | s :: l, total, hf, h0, hle, h => by
    have he := length_expand_cons s l
    have h1 := hf s (List.mem_cons_self ..)
    have hz : s.1 = 0 ∨ s.2.length = 0 := by
      by_cases hp : 0 < s.1
      · exact .inr (by rw [h1.2 hp]; rfl)
      · exact .inl (by have := h1.1; omega)
    have h10 := h1.1
    simp only [sizeGo]
    rw [if_neg (by omega), if_neg (fun hh => hh.2 (h1.2 hh.1))]
    split
    · rfl
    · exact sizeGo_big l _ (fun t ht => hf t (List.mem_cons_of_mem _ ht)) (by omega) (by omega) (by omega)
theorem sizeGo_err : ∀ (l : List Seg) (total : Int), (sizeGo total l).2 ≠ 0 → (sizeGo total l).1 = 0
  | [], total, h => by simp [sizeGo] at h
  | s :: l, total, h => by
    simp only [sizeGo] at h ⊢
    split
    · rfl
    · rename_i ha
      rw [if_neg ha] at h
      split
      · rfl
      · rename_i hb
        rw [if_neg hb] at h
        split
        · rfl
        · rename_i hc
          rw [if_neg hc] at h
          exact sizeGo_err l _ h
theorem sizeGo_append : ∀ (a b : List Seg) (total : Int), sizeGo total (a ++ b) = if (sizeGo total a).2 = 0 then sizeGo (sizeGo total a).1 b else sizeGo total a
  | [], b, total => by simp [sizeGo]
  | s :: a, b, total => by
    simp only [List.cons_append, sizeGo]
    split
    · simp
    · split
      · simp
      · split
        · simp
        · exact sizeGo_append a b _
/-- The size and the error; the text and the error. -/
def sizeL (l : List Seg) : Int × Int := sizeGo 0 l
def joinL (l : List Seg) : List UInt8 × Int := if (sizeL l).2 = 0 then (expand l, 0) else ([], (sizeL l).2)
theorem sizeL_segs {s : List UInt8} (h : s.length ≤ 65536) : sizeL (segs s) = (((s.length : Nat) : Int), 0) := by
  unfold sizeL
  rw [sizeGo_fine (segs s) _ (fine_go [] s) (Int.le_refl _) (by rw [expand_segs]; omega), expand_segs]
  simp
theorem joinL_segs {s : List UInt8} (h : s.length ≤ 65536) : joinL (segs s) = (s, 0) := by
  unfold joinL; rw [sizeL_segs h, expand_segs]; rfl
theorem joinL_err (l : List Seg) : (joinL l).2 = (sizeL l).2 := by
  unfold joinL; split
  · rename_i h; exact h.symm
  · rfl
theorem sizeL_ok {l : List Seg} (h : (sizeL l).2 = 0) : (∀ s ∈ l, Fine s) ∧ (sizeL l).1 = (expand l).length ∧ (expand l).length ≤ 65536 := by
  obtain ⟨h1, h2, h3⟩ := sizeGo_ok l 0 (Int.le_refl _) (by omega) h
  exact ⟨h1, by simpa [sizeL] using h2, by omega⟩
theorem sizeL_append_ok {a b : List Seg} (ha : (sizeL a).2 = 0) (hb : (sizeL b).2 = 0) :
    sizeL (a ++ b) = if (expand a).length + (expand b).length ≤ 65536 then ((((expand a).length + (expand b).length : Nat) : Int), 0) else (0, 6) := by
  obtain ⟨a1, a2, a3⟩ := sizeL_ok ha
  obtain ⟨b1, b2, b3⟩ := sizeL_ok hb
  have hf : ∀ s ∈ a ++ b, Fine s := fun s hs => (List.mem_append.1 hs).elim (a1 s) (b1 s)
  unfold sizeL
  split
  · rw [sizeGo_fine _ _ hf (Int.le_refl _) (by rw [expand_append, List.length_append]; omega), expand_append, List.length_append]; simp
  · rw [sizeGo_big _ _ hf (Int.le_refl _) (by omega) (by rw [expand_append, List.length_append]; omega)]
theorem sizeL_append_err {a b : List Seg} (h : (sizeL a).2 ≠ 0 ∨ (sizeL b).2 ≠ 0) : (sizeL (a ++ b)).2 ≠ 0 := by
  intro h0
  obtain ⟨c1, c2, c3⟩ := sizeL_ok h0
  rw [expand_append, List.length_append] at c3
  rcases h with h | h
  · apply h
    unfold sizeL
    rw [sizeGo_fine _ _ (fun s hs => c1 s (List.mem_append_left _ hs)) (Int.le_refl _) (by omega)]
  · apply h
    unfold sizeL
    rw [sizeGo_fine _ _ (fun s hs => c1 s (List.mem_append_right _ hs)) (Int.le_refl _) (by omega)]
end Go.Proofs.Ytomlknjpaielgaa.Sparse
