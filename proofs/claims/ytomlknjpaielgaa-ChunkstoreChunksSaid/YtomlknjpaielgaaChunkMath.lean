/- Plain facts on content-defined chunks: the length of the first chunk, all chunks, and what they promise. No program is in sight. -/
import Derived.Test.YtomlknjpaielgaaBase
namespace Go.Proofs.Ytomlknjpaielgaa.Chunk
set_option maxRecDepth 100000

/-- The rolling value behind a byte. -/
def roll (h : Nat) (c : UInt8) : Nat := (2 * h + 40503 * (c.toNat + 1)) % 65536
/-- Does a chunk end behind n bytes at the value h? -/
def cut (n h : Nat) : Bool := n == 96 || (decide (16 ≤ n) && decide (h < 2048))
/-- The length of the first chunk, i bytes of which have passed. -/
def firstFrom (h i : Nat) : List UInt8 → Nat
  | [] => i
  | c :: l => if cut (i + 1) (roll h c) then i + 1 else firstFrom (roll h c) (i + 1) l
def first (l : List UInt8) : Nat := firstFrom 0 0 l

theorem cut_96 {n h : Nat} (e : n = 96) : cut n h = true := by simp [cut, e]
theorem cut_lt {n h : Nat} (a : 16 ≤ n) (b : n = 96 ∨ h < 2048) : cut n h = true := by simp [cut]; omega
theorem cut_no {n h : Nat} : (cut n h = true) = (n = 96 ∨ 16 ≤ n ∧ h < 2048) := by simp [cut]
theorem roll_lt (h : Nat) (c : UInt8) : roll h c < 65536 := Nat.mod_lt _ (by decide)

theorem firstFrom_ge (l : List UInt8) : ∀ h i, i ≤ firstFrom h i l := by
  induction l with
  | nil => intro h i; exact Nat.le_refl _
  | cons c l ih =>
    intro h i
    simp only [firstFrom]
    split
    · omega
    · have := ih (roll h c) (i + 1); omega
theorem firstFrom_le (l : List UInt8) : ∀ h i, firstFrom h i l ≤ i + l.length := by
  induction l with
  | nil => intro h i; simp [firstFrom]
  | cons c l ih =>
    intro h i
    simp only [firstFrom, List.length_cons]
    split
    · omega
    · have := ih (roll h c) (i + 1); omega
theorem first_le (l : List UInt8) : first l ≤ l.length := by have := firstFrom_le l 0 0; unfold first; omega
theorem firstFrom_pos (l : List UInt8) (h i : Nat) (hl : l ≠ []) : i < firstFrom h i l := by
  cases l with
  | nil => exact absurd rfl hl
  | cons c l =>
    simp only [firstFrom]
    split
    · omega
    · have := firstFrom_ge l (roll h c) (i + 1); omega
theorem first_pos {l : List UInt8} (hl : l ≠ []) : 0 < first l := firstFrom_pos l 0 0 hl
theorem firstFrom_96 (l : List UInt8) : ∀ h i, i < 96 → firstFrom h i l ≤ 96 := by
  induction l with
  | nil => intro h i hi; simp only [firstFrom]; omega
  | cons c l ih =>
    intro h i hi
    simp only [firstFrom]
    split
    · omega
    · rename_i hc
      rw [cut_no] at hc
      exact ih _ _ (by omega)
theorem first_96 (l : List UInt8) : first l ≤ 96 := firstFrom_96 l 0 0 (by omega)
/-- A chunk that ends ahead of the data's end has at least 16 bytes. -/
theorem firstFrom_16 (l : List UInt8) : ∀ h i, firstFrom h i l < i + l.length → 16 ≤ firstFrom h i l := by
  induction l with
  | nil => intro h i; simp [firstFrom]
  | cons c l ih =>
    intro h i
    simp only [firstFrom, List.length_cons]
    split
    · rename_i hc
      rw [cut_no] at hc
      omega
    · intro hh; exact ih _ _ (by omega)
theorem first_16 {l : List UInt8} (h : first l < l.length) : 16 ≤ first l := firstFrom_16 l 0 0 (by unfold first at h; omega)
/-- A chunk that ends ahead of the data's end does not hang on what follows it. -/
theorem firstFrom_ext (l : List UInt8) : ∀ h i m, firstFrom h i l < i + l.length → firstFrom h i (l.take (firstFrom h i l - i) ++ m) = firstFrom h i l := by
  induction l with
  | nil => intro h i m; simp [firstFrom]
  | cons c l ih =>
    intro h i m
    simp only [firstFrom, List.length_cons]
    split
    · rename_i hc
      intro _
      rw [show i + 1 - i = 0 + 1 from by omega, List.take_succ_cons, List.take_zero]
      simp only [List.cons_append, firstFrom]
      rw [if_pos hc]
    · rename_i hc
      intro hh
      have hg := firstFrom_ge l (roll h c) (i + 1)
      rw [show firstFrom (roll h c) (i + 1) l - i = (firstFrom (roll h c) (i + 1) l - (i + 1)) + 1 from by omega, List.take_succ_cons, List.cons_append]
      simp only [firstFrom]
      rw [if_neg hc]
      exact ih _ _ _ (by omega)
theorem first_ext {l : List UInt8} (h : first l < l.length) (m : List UInt8) : first (l.take (first l) ++ m) = first l := by
  have := firstFrom_ext l 0 0 m (by unfold first at h; omega)
  simpa [first] using this

/-- The chunks, n of them at the most. -/
def splitN : Nat → List UInt8 → List (List UInt8)
  | 0, _ => []
  | n + 1, l => if l = [] then [] else l.take (first l) :: splitN n (l.drop (first l))
def split (l : List UInt8) : List (List UInt8) := splitN l.length l

theorem splitN_enough (n : Nat) : ∀ (m : Nat) (l : List UInt8), l.length ≤ n → l.length ≤ m → splitN n l = splitN m l := by
  induction n with
  | zero => intro m l h _; rw [List.eq_nil_of_length_eq_zero (Nat.le_zero.1 h)]; cases m <;> simp [splitN]
  | succ n ih =>
    intro m l h h'
    by_cases e : l = []
    · subst e; cases m <;> simp [splitN]
    · cases m with
      | zero => exact absurd (List.eq_nil_of_length_eq_zero (Nat.le_zero.1 h')) e
      | succ m =>
        have hp := first_pos e
        have hle := first_le l
        simp only [splitN, if_neg e]
        rw [ih m _ (by simp only [List.length_drop]; omega) (by simp only [List.length_drop]; omega)]
theorem split_nil : split [] = [] := rfl
theorem split_cons {l : List UInt8} (e : l ≠ []) : split l = l.take (first l) :: split (l.drop (first l)) := by
  have hp := first_pos e
  have hle := first_le l
  unfold split
  cases hl : l.length with
  | zero => exact absurd (List.eq_nil_of_length_eq_zero hl) e
  | succ n =>
    simp only [splitN, if_neg e]
    rw [splitN_enough n _ _ (by simp only [List.length_drop]; omega) (Nat.le_refl _)]
/-- Induction over the data, a chunk at a time. -/
theorem split_ind {p : List UInt8 → Prop} (h0 : p []) (h1 : ∀ l, l ≠ [] → p (l.drop (first l)) → p l) (l : List UInt8) : p l := by
  have : ∀ n l, l.length ≤ n → p l := by
    intro n
    induction n with
    | zero => intro l h; rw [List.eq_nil_of_length_eq_zero (Nat.le_zero.1 h)]; exact h0
    | succ n ih =>
      intro l h
      by_cases e : l = []
      · rw [e]; exact h0
      · have := first_pos e
        exact h1 l e (ih _ (by simp only [List.length_drop]; omega))
  exact this _ l (Nat.le_refl _)
theorem split_flatten (l : List UInt8) : (split l).flatten = l := by
  refine split_ind (p := fun l => (split l).flatten = l) rfl (fun l e ih => ?_) l
  rw [split_cons e, List.flatten_cons, ih, List.take_append_drop]
theorem split_ne {l c : List UInt8} (h : c ∈ split l) : c ≠ [] := by
  revert h
  refine split_ind (p := fun l => c ∈ split l → c ≠ []) (by simp [split_nil]) (fun l e ih => ?_) l
  rw [split_cons e]
  intro h
  rcases List.mem_cons.1 h with rfl | h
  · have := first_pos e
    have hl : 0 < l.length := List.length_pos_iff.2 e
    intro hc
    have := congrArg List.length hc
    simp only [List.length_take, List.length_nil] at this
    omega
  · exact ih h
theorem split_96 {l c : List UInt8} (h : c ∈ split l) : c.length ≤ 96 := by
  revert h
  refine split_ind (p := fun l => c ∈ split l → c.length ≤ 96) (by simp [split_nil]) (fun l e ih => ?_) l
  rw [split_cons e]
  intro h
  rcases List.mem_cons.1 h with rfl | h
  · have := first_96 l
    simp only [List.length_take]
    omega
  · exact ih h
theorem split_eq_nil {l : List UInt8} : split l = [] ↔ l = [] :=
  ⟨fun h => (by by_cases e : l = []; exact e; rw [split_cons e] at h; cases h), fun h => (by rw [h]; rfl)⟩

theorem split_length (l : List UInt8) : (split l).length ≤ l.length := by
  refine split_ind (p := fun l => (split l).length ≤ l.length) (by simp [split_nil]) (fun l e ih => ?_) l
  rw [split_cons e]
  have := first_pos e
  have := List.length_pos_iff.2 e
  simp only [List.length_cons, List.length_drop] at *
  omega

/-- A chunk that ends whatever follows it. -/
def Closed (c : List UInt8) : Prop := c ≠ [] ∧ 16 ≤ c.length ∧ ∀ m, first (c ++ m) = c.length
theorem closed_take {l : List UInt8} (h : first l < l.length) : Closed (l.take (first l)) := by
  have h16 := first_16 h
  refine ⟨fun hc => ?_, by simp only [List.length_take]; omega, fun m => ?_⟩
  · have := congrArg List.length hc
    simp only [List.length_take, List.length_nil] at this
    omega
  · rw [first_ext h m, List.length_take]; omega
theorem split_closed_one {c : List UInt8} (h : Closed c) (x : List UInt8) : split (c ++ x) = c :: split x := by
  have e : c ++ x ≠ [] := fun hc => h.1 (List.append_eq_nil_iff.1 hc).1
  rw [split_cons e, h.2.2 x, List.take_left, List.drop_left]
theorem split_closed : ∀ (cs : List (List UInt8)), (∀ c ∈ cs, Closed c) → ∀ x, split (cs.flatten ++ x) = cs ++ split x := by
  intro cs
  induction cs with
  | nil => intro _ x; rfl
  | cons c cs ih =>
    intro h x
    rw [List.flatten_cons, List.append_assoc, split_closed_one (h c (List.mem_cons_self ..)), ih (fun d hd => h d (List.mem_cons_of_mem _ hd)), List.cons_append]
theorem dropLast_closed {l c : List UInt8} (h : c ∈ (split l).dropLast) : Closed c := by
  revert h
  refine split_ind (p := fun l => c ∈ (split l).dropLast → Closed c) (by simp [split_nil]) (fun l e ih => ?_) l
  rw [split_cons e]
  intro h
  by_cases e2 : l.drop (first l) = []
  · rw [e2, split_nil] at h; simp at h
  · rw [List.dropLast_cons_of_ne_nil (fun hh => e2 (split_eq_nil.1 hh))] at h
    rcases List.mem_cons.1 h with rfl | h
    · refine closed_take ?_
      have := List.length_pos_iff.2 e2
      simp only [List.length_drop] at this
      omega
    · exact ih h
/-- What follows a chunk's end is split for itself. -/
theorem split_drop (l : List UInt8) : ∀ i, split ((split l).drop i).flatten = (split l).drop i := by
  refine split_ind (p := fun l => ∀ i, split ((split l).drop i).flatten = (split l).drop i) (fun i => by simp [split_nil]) (fun l e ih i => ?_) l
  rw [split_cons e]
  cases i with
  | zero =>
    rw [List.drop_zero, ← split_cons e, split_flatten]
  | succ i =>
    rw [List.drop_succ_cons]
    exact ih i
/-- The first i chunks, where i is no more than all but the last, end whatever follows. -/
theorem take_closed {l c : List UInt8} {i : Nat} (hi : i + 1 ≤ (split l).length) (h : c ∈ (split l).take i) : Closed c := by
  refine dropLast_closed (l := l) ?_
  rw [List.dropLast_eq_take]
  exact List.mem_of_mem_take (i := i) (by rwa [List.take_take, Nat.min_eq_left (by omega)])
/-- Data that begins as l did up to behind i chunks has the same i chunks. -/
theorem split_common {l m : List UInt8} {i : Nat} (hi : i + 1 ≤ (split l).length) {r : List UInt8} (hm : m = ((split l).take i).flatten ++ r) : split m = (split l).take i ++ split r := by
  rw [hm, split_closed _ (fun c hc => take_closed hi hc)]
theorem split_last_append (l x : List UInt8) (e : l ≠ []) : ∃ a, (split l) = (split l).dropLast ++ [a] ∧ (a ≠ [] ∧ a.length ≤ 96) ∧ split (l ++ x) = (split l).dropLast ++ split (a ++ x) := by
  have hne : split l ≠ [] := fun h => e (split_eq_nil.1 h)
  refine ⟨(split l).getLast hne, (List.dropLast_concat_getLast hne).symm, ⟨split_ne (List.getLast_mem hne), split_96 (List.getLast_mem hne)⟩, ?_⟩
  have hf : l = (split l).dropLast.flatten ++ (split l).getLast hne := by
    have := split_flatten l
    rw [← List.dropLast_concat_getLast hne, List.flatten_append] at this
    simpa using this.symm
  conv => lhs; rw [hf]
  rw [List.append_assoc, split_closed _ (fun c hc => dropLast_closed hc)]
theorem split_repeat {cs : List (List UInt8)} (h : ∀ c ∈ cs, Closed c) (k : Nat) : split (List.replicate k cs.flatten).flatten = (List.replicate k cs).flatten := by
  induction k with
  | zero => rfl
  | succ k ih => rw [List.replicate_succ, List.replicate_succ, List.flatten_cons, List.flatten_cons, split_closed cs h, ih]
end Go.Proofs.Ytomlknjpaielgaa.Chunk
