/- Plain facts on tables: the widths of columns, the line of a row. No program is in sight. -/
import Derived.Test.YtofhokggcpeldaaBase
namespace Go.Proofs.Ytofhokggcpeldaa.Table

/-- A row's lengths laid over widths. -/
def wrow : List Nat → List Nat → List Nat
  | ws, [] => ws
  | ws, n :: r => max (ws.headD 1) n :: wrow ws.tail r
/-- One cell laid over widths. -/
def wset (o : List Nat) (k n : Nat) : List Nat := (if k = o.length then o ++ [1] else o).set k (max ((if k = o.length then o ++ [1] else o).getD k 0) n)

theorem wset_cons (x : Nat) (o : List Nat) (k n : Nat) : wset (x :: o) (k + 1) n = x :: wset o k n := by
  unfold wset
  by_cases h : k = o.length
  · simp [h]
  · simp [h]
theorem wrow_snoc : ∀ (l ws : List Nat) (n : Nat), wrow ws (l ++ [n]) = wset (wrow ws l) l.length n
  | [], ws, n => by
    cases ws with
    | nil => simp [wrow, wset]
    | cons w t => simp [wrow, wset]
  | m :: r, ws, n => by
    rw [List.cons_append, wrow, wrow_snoc r ws.tail n, wrow, List.length_cons, wset_cons]
theorem wrow_length : ∀ (l ws : List Nat), (wrow ws l).length = max ws.length l.length
  | [], ws => by simp [wrow]
  | m :: r, ws => by
    rw [wrow, List.length_cons, wrow_length r ws.tail]
    cases ws <;> simp
/-- What a row's lengths ask of a column. -/
def ask (l : List Nat) (k : Nat) : Nat := if k < l.length then max 1 (l.getD k 0) else 0
theorem ask_cons_zero (n : Nat) (l : List Nat) : ask (n :: l) 0 = max 1 n := by simp [ask]
theorem ask_cons_succ (n : Nat) (l : List Nat) (k : Nat) : ask (n :: l) (k + 1) = ask l k := by simp [ask]
theorem wrow_pos : ∀ (l ws : List Nat), (∀ w ∈ ws, 1 ≤ w) → ∀ w ∈ wrow ws l, 1 ≤ w
  | [], ws, h => by simpa [wrow] using h
  | m :: r, ws, h => by
    intro w hw
    rw [wrow, List.mem_cons] at hw
    rcases hw with rfl | hw
    · cases ws with
      | nil => simp; omega
      | cons x t => have := h x (List.mem_cons_self ..); simp; omega
    · exact wrow_pos r ws.tail (fun w hw => h w (List.mem_of_mem_tail hw)) w hw
theorem wrow_getD : ∀ (l ws : List Nat) (k : Nat), (∀ w ∈ ws, 1 ≤ w) → (wrow ws l).getD k 0 = max (ws.getD k 0) (ask l k)
  | [], ws, k, h => by simp [wrow, ask]
  | m :: r, [], 0, h => by rw [wrow, ask_cons_zero]; simp
  | m :: r, [], k + 1, h => by
    have := wrow_getD r [] k (by simp)
    rw [wrow, ask_cons_succ, List.getD_cons_succ, List.tail_nil, this]; simp
  | m :: r, x :: t, 0, h => by
    have := h x (List.mem_cons_self ..)
    rw [wrow, ask_cons_zero, List.getD_cons_zero, List.headD_cons, List.getD_cons_zero]; omega
  | m :: r, x :: t, k + 1, h => by
    rw [wrow, ask_cons_succ, List.getD_cons_succ, List.tail_cons, wrow_getD r t k (fun w hw => h w (List.mem_cons_of_mem _ hw)), List.getD_cons_succ]

/-- A row: its cells. -/
abbrev Row := List ByteArray
def lens (r : Row) : List Nat := r.map (·.size)
theorem lens_length (r : Row) : (lens r).length = r.length := by simp [lens]
/-- The widths of the columns. -/
def widths (rows : List Row) : List Nat := rows.foldl (fun ws r => wrow ws (lens r)) []
theorem widths_nil : widths [] = [] := rfl
theorem widths_snoc (rows : List Row) (r : Row) : widths (rows ++ [r]) = wrow (widths rows) (lens r) := by simp [widths]
theorem widths_append (a b : List Row) : widths (a ++ b) = b.foldl (fun ws r => wrow ws (lens r)) (widths a) := by simp [widths]
theorem fold_pos : ∀ (rows : List Row) (ws : List Nat), (∀ w ∈ ws, 1 ≤ w) → ∀ w ∈ rows.foldl (fun ws r => wrow ws (lens r)) ws, 1 ≤ w
  | [], _, h => h
  | _ :: rows, _, h => fold_pos rows _ (wrow_pos _ _ h)
theorem widths_pos (rows : List Row) : ∀ w ∈ widths rows, 1 ≤ w := fold_pos rows [] (by simp)
theorem fold_length : ∀ (rows : List Row) (ws : List Nat), (rows.foldl (fun ws r => wrow ws (lens r)) ws).length = rows.foldl (fun m r => max m r.length) ws.length
  | [], _ => rfl
  | _ :: rows, _ => by
    rw [List.foldl_cons, fold_length rows, wrow_length, lens_length, List.foldl_cons]
theorem fold_getD : ∀ (rows : List Row) (ws : List Nat) (k : Nat), (∀ w ∈ ws, 1 ≤ w) → (rows.foldl (fun ws r => wrow ws (lens r)) ws).getD k 0 = rows.foldl (fun m r => max m (ask (lens r) k)) (ws.getD k 0)
  | [], _, _, _ => rfl
  | _ :: rows, _, k, h => by
    rw [List.foldl_cons, fold_getD rows _ k (wrow_pos _ _ h), wrow_getD _ _ _ h, List.foldl_cons]
theorem foldl_max {α : Type} (f : α → Nat) : ∀ (l : List α) (m : Nat), l.foldl (fun m x => max m (f x)) m = max m (l.foldl (fun m x => max m (f x)) 0)
  | [], m => by simp
  | x :: l, m => by rw [List.foldl_cons, foldl_max f l, List.foldl_cons, foldl_max f l (max 0 (f x))]; omega
/-- The greatest of some numbers. -/
def most {α : Type} (f : α → Nat) (l : List α) : Nat := l.foldl (fun m x => max m (f x)) 0
theorem most_nil {α : Type} (f : α → Nat) : most f [] = 0 := rfl
theorem most_cons {α : Type} (f : α → Nat) (x : α) (l : List α) : most f (x :: l) = max (f x) (most f l) := by
  unfold most; rw [List.foldl_cons, foldl_max f l]; omega
theorem most_append {α : Type} (f : α → Nat) (a b : List α) : most f (a ++ b) = max (most f a) (most f b) := by
  induction a with
  | nil => simp [most_nil]
  | cons x a ih => rw [List.cons_append, most_cons, most_cons, ih]; omega
theorem most_perm {α : Type} {f : α → Nat} {a b : List α} (h : a.Perm b) : most f a = most f b := by
  induction h with
  | nil => rfl
  | cons x _ ih => rw [most_cons, most_cons, ih]
  | swap x y l => rw [most_cons, most_cons, most_cons, most_cons]; omega
  | trans _ _ h1 h2 => rw [h1, h2]
theorem most_le {α : Type} {f : α → Nat} {l : List α} {x : α} (h : x ∈ l) : f x ≤ most f l := by
  induction l with
  | nil => cases h
  | cons y l ih =>
    rw [most_cons]
    rcases List.mem_cons.1 h with rfl | h
    · omega
    · have := ih h; omega
theorem widths_length (rows : List Row) : (widths rows).length = most List.length rows := by
  rw [widths, fold_length]; rfl
theorem widths_getD (rows : List Row) (k : Nat) : (widths rows).getD k 0 = most (fun r => ask (lens r) k) rows := by
  rw [widths, fold_getD _ _ _ (by simp)]; rfl
theorem ext_getD {a b : List Nat} (h : a.length = b.length) (h' : ∀ k, a.getD k 0 = b.getD k 0) : a = b := by
  apply List.ext_getElem h
  intro i h1 h2
  have := h' i
  simpa [List.getD_eq_getElem?_getD, h1, h2] using this
/-- Widths do not hang on the rows' order. -/
theorem widths_perm {a b : List Row} (h : a.Perm b) : widths a = widths b :=
  ext_getD (by rw [widths_length, widths_length, most_perm h]) (fun k => by rw [widths_getD, widths_getD, most_perm h])
theorem widths_both (a b : List Row) : (widths (a ++ b)).length = max (widths a).length (widths b).length ∧ ∀ k, (widths (a ++ b)).getD k 0 = max ((widths a).getD k 0) ((widths b).getD k 0) :=
  ⟨by rw [widths_length, widths_length, widths_length, most_append], fun k => by rw [widths_getD, widths_getD, widths_getD, most_append]⟩
/-- Whatever a row asks, the widths give. -/
theorem widths_row {rows : List Row} {r : Row} (h : r ∈ rows) : r.length ≤ (widths rows).length ∧ ∀ k (c : ByteArray), r[k]? = some c → c.size ≤ (widths rows).getD k 0 := by
  refine ⟨by rw [widths_length]; exact most_le h, fun k c hc => ?_⟩
  rw [widths_getD]
  have h1 : ask (lens r) k ≤ most (fun r => ask (lens r) k) rows := most_le (f := fun r => ask (lens r) k) h
  have hk : k < r.length := (List.getElem?_eq_some_iff.1 hc).1
  have h2 : ask (lens r) k = max 1 c.size := by
    unfold ask
    rw [if_pos (by rw [lens_length]; exact hk)]
    simp [lens, List.getElem?_map, hc]
  omega
/-- A row that asks no more than there is changes nothing. -/
theorem widths_fits {rows : List Row} {r : Row} (h1 : r.length ≤ (widths rows).length) (h2 : ∀ k (c : ByteArray), r[k]? = some c → c.size ≤ (widths rows).getD k 0) : widths (rows ++ [r]) = widths rows := by
  apply ext_getD
  · rw [widths_snoc, wrow_length, lens_length]; omega
  · intro k
    rw [widths_snoc, wrow_getD _ _ _ (widths_pos rows)]
    by_cases hk : k < r.length
    · obtain ⟨c, hc⟩ : ∃ c, r[k]? = some c := ⟨_, List.getElem?_eq_getElem hk⟩
      have h3 := h2 k c hc
      have h4 : 1 ≤ (widths rows).getD k 0 := by
        have hk' : k < (widths rows).length := by omega
        rw [List.getD_eq_getElem?_getD, List.getElem?_eq_getElem hk']
        exact widths_pos rows _ (List.getElem_mem hk')
      have h5 : ask (lens r) k = max 1 c.size := by
        unfold ask
        rw [if_pos (by rw [lens_length]; exact hk)]
        simp [lens, List.getElem?_map, hc]
      omega
    · have : ask (lens r) k = 0 := by unfold ask; rw [if_neg (by rw [lens_length]; exact hk)]
      omega

/-- The text of a cell: none, if there is no such cell. -/
def cellAt (r : Row) (k : Nat) : ByteArray := r.getD k ⟨#[]⟩
def padL (w : Nat) (c : List UInt8) : List UInt8 := 32 :: (c ++ (List.replicate (w - c.length) 32 ++ [32, 124]))
theorem padL_length {w : Nat} {c : List UInt8} (h : c.length ≤ w) : (padL w c).length = w + 3 := by simp [padL]; omega
/-- The line, up to a column. -/
def lineTo (ws : List Nat) (r : Row) : Nat → List UInt8
  | 0 => [124]
  | k + 1 => lineTo ws r k ++ padL (ws.getD k 0) (cellAt r k).data.toList
def lineL (ws : List Nat) (r : Row) : List UInt8 := lineTo ws r ws.length
/-- Where a column begins. -/
def posL (ws : List Nat) : Nat → Nat
  | 0 => 1
  | k + 1 => posL ws k + (ws.getD k 0 + 3)
def Fits (ws : List Nat) (r : Row) : Prop := ∀ k, (cellAt r k).size ≤ ws.getD k 0 ∨ ws.length ≤ k
theorem lineTo_length {ws : List Nat} {r : Row} (h : Fits ws r) : ∀ k, k ≤ ws.length → (lineTo ws r k).length = posL ws k
  | 0, _ => rfl
  | k + 1, hk => by
    have h1 : (cellAt r k).data.toList.length ≤ ws.getD k 0 := by
      rcases h k with h | h
      · simpa using h
      · omega
    rw [lineTo, List.length_append, lineTo_length h k (by omega), padL_length h1, posL]
/-- A line parts at a column. -/
theorem lineTo_part (ws : List Nat) (r : Row) (k : Nat) : ∀ n, k < n → ∃ rest, lineTo ws r n = lineTo ws r k ++ (padL (ws.getD k 0) (cellAt r k).data.toList ++ rest)
  | 0, h => by omega
  | n + 1, h => by
    by_cases e : k = n
    · subst e; exact ⟨[], by rw [lineTo, List.append_nil]⟩
    · obtain ⟨rest, hr⟩ := lineTo_part ws r k n (by omega)
      exact ⟨rest ++ padL (ws.getD n 0) (cellAt r n).data.toList, by rw [lineTo, hr]; simp⟩
theorem fits_row {rows : List Row} {r : Row} (h : r ∈ rows) : Fits (widths rows) r := fun k => by
  by_cases hk : k < r.length
  · have hc : r[k]? = some r[k] := List.getElem?_eq_getElem hk
    refine .inl ?_
    have := (widths_row h).2 k _ hc
    simpa [cellAt, List.getD_eq_getElem?_getD, hc] using this
  · refine .inl ?_
    have : cellAt r k = ⟨#[]⟩ := by simp [cellAt, List.getD_eq_getElem?_getD, List.getElem?_eq_none (Nat.le_of_not_lt hk)]
    rw [this]; exact Nat.zero_le _
def linesL (rows : List Row) : List (List UInt8) := rows.map (lineL (widths rows))
/-- A line does not hang on empty cells behind the row. -/
theorem lineTo_same {ws : List Nat} {r r' : Row} : ∀ k, (∀ j, j < k → cellAt r j = cellAt r' j) → lineTo ws r k = lineTo ws r' k
  | 0, _ => rfl
  | k + 1, h => by rw [lineTo, lineTo, lineTo_same k (fun j hj => h j (by omega)), h k (by omega)]
end Go.Proofs.Ytofhokggcpeldaa.Table
