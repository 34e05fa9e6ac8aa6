/- Expressions and functions as rows of cells: copied by append, they stay what they are. No condition. -/
import Derived.Test.YtgimdbflpdmlmaaCkExpr
import Derived.Test.YtgimdbflpdmlmaaSlc
import Derived.Test.YtgimdbflpdmlmaaRegInv
namespace Go.Proofs.Ytgimdbflpdmlmaa
set_option maxRecDepth 100000
open Go.RowKit Go.Shelf Go.Proofs.Ytgimdbflpdmlmaa.Ck

theorem ExsAt.mono {w : World} : ∀ {n : Nat} {v : Value} {l : List Ex}, ExsAt w n v l → ExsAt w (n + 1) v l
  | 0, v, l, h => by
    obtain ⟨rfl, a, cap, rfl, h1⟩ := h
    exact ⟨a, cap, rfl, Nat.zero_le _, h1, .inl rfl⟩
  | n + 1, v, l, h => by
    obtain ⟨a, cap, rfl, h1, h2, h3⟩ := h
    refine ⟨a, cap, rfl, h1, h2, h3.imp id ?_⟩
    rintro ⟨b, o, rfl, hlt, hc⟩
    refine ⟨b, o, rfl, hlt, fun i e he => ?_⟩
    obtain ⟨c0, c1, c2, u, c3, hu⟩ := hc i e he
    exact ⟨c0, c1, c2, u, c3, ExsAt.mono hu⟩
theorem ExsAt.mono_le {w : World} {n m : Nat} {v : Value} {l : List Ex} (h : ExsAt w n v l) (hm : n ≤ m) : ExsAt w m v l := by
  obtain ⟨k, rfl⟩ := Nat.le.dest hm
  induction k with
  | zero => exact h
  | succ k ih => exact (ih (by omega)).mono
theorem StsAt.mono {w : World} : ∀ {n : Nat} {v : Value} {l : List St}, StsAt w n v l → StsAt w (n + 1) v l
  | 0, v, l, h => by
    obtain ⟨rfl, a, cap, rfl, h1⟩ := h
    exact ⟨a, cap, rfl, Nat.zero_le _, h1, .inl rfl⟩
  | n + 1, v, l, h => by
    obtain ⟨a, cap, rfl, h1, h2, h3⟩ := h
    refine ⟨a, cap, rfl, h1, h2, h3.imp id ?_⟩
    rintro ⟨b, o, rfl, hlt, hc⟩
    refine ⟨b, o, rfl, hlt, fun i e he => ?_⟩
    obtain ⟨c0, c1, ui, uv, ut, ue, c2, c3, c4, c5, x1, x2, x3, x4⟩ := hc i e he
    exact ⟨c0, c1, ui, uv, ut, ue, c2, c3, c4, c5, x1, x2, StsAt.mono x3, StsAt.mono x4⟩
theorem StsAt.mono_le {w : World} {n m : Nat} {v : Value} {l : List St} (h : StsAt w n v l) (hm : n ≤ m) : StsAt w m v l := by
  obtain ⟨k, rfl⟩ := Nat.le.dest hm
  induction k with
  | zero => exact h
  | succ k ih => exact (ih (by omega)).mono

/-- These cells are these expressions. -/
def ExRow (w : World) (n : Nat) : List Ex → List Value → Prop
  | [], cs => cs = []
  | e :: l, cs => ∃ u r, cs = .string e.op :: .int .u32 e.num :: .string e.name :: u :: r ∧ ExsAt w n u e.args ∧ ExRow w n l r
theorem ExRow.length {w : World} {n : Nat} : ∀ {l : List Ex} {cs : List Value}, ExRow w n l cs → cs.length = l.length * 4
  | [], _, h => by cases h; rfl
  | e :: l, _, h => by
    obtain ⟨u, r, rfl, _, hr⟩ := h
    have := ExRow.length hr
    simp only [List.length_cons]
    omega
theorem ExRow.one {w : World} {n : Nat} : ∀ {l : List Ex} {cs : List Value}, ExRow w n l cs → ∀ x ∈ cs, x.oneCell' = true
  | [], _, h, x, hx => by cases h; cases hx
  | e :: l, _, h, x, hx => by
    obtain ⟨u, r, rfl, hu, hr⟩ := h
    obtain ⟨a, c, rfl, _, _⟩ := hu.len
    simp only [List.mem_cons] at hx
    rcases hx with rfl | rfl | rfl | rfl | hx
    · rfl
    · rfl
    · rfl
    · rfl
    · exact ExRow.one hr x hx
theorem ExRow.append {w : World} {n : Nat} : ∀ {l m : List Ex} {cs ds : List Value}, ExRow w n l cs → ExRow w n m ds → ExRow w n (l ++ m) (cs ++ ds)
  | [], m, _, ds, h, h' => by cases h; exact h'
  | e :: l, m, _, ds, h, h' => by
    obtain ⟨u, r, rfl, hu, hr⟩ := h
    exact ⟨u, r ++ ds, rfl, hu, ExRow.append hr h'⟩
theorem ExRow.get {w : World} {n : Nat} : ∀ {l : List Ex} {cs : List Value} {i : Nat} {e : Ex}, ExRow w n l cs → l[i]? = some e → cs[i * 4]? = some (.string e.op) ∧ cs[i * 4 + 1]? = some (.int .u32 e.num) ∧ cs[i * 4 + 2]? = some (.string e.name) ∧ ∃ u, cs[i * 4 + 3]? = some u ∧ ExsAt w n u e.args
  | [], _, i, e, _, hi => by simp at hi
  | x :: l, _, 0, e, h, hi => by
    obtain ⟨u, r, rfl, hu, hr⟩ := h
    simp at hi
    subst hi
    exact ⟨rfl, rfl, rfl, u, rfl, hu⟩
  | x :: l, _, i + 1, e, h, hi => by
    obtain ⟨u, r, rfl, hu, hr⟩ := h
    have := ExRow.get (i := i) hr (by simpa using hi)
    rw [show (i + 1) * 4 = i * 4 + 1 + 1 + 1 + 1 by omega]
    exact this
theorem ExRow.below {w w' : World} {n B : Nat} (hb : Below B w w') (hB : w.heap.size ≤ B) : ∀ {l : List Ex} {cs : List Value}, ExRow w n l cs → ExRow w' n l cs
  | [], _, h => h
  | e :: l, _, h => by
    obtain ⟨u, r, rfl, hu, hr⟩ := h
    exact ⟨u, r, rfl, hu.below hb hB, ExRow.below hb hB hr⟩
theorem exRow_at {w : World} {n b : Nat} : ∀ (l : List Ex) (o : Nat), (∀ i e, l[i]? = some e →
      w.cell? ⟨b, o + i * 4, none⟩ = some (.string e.op) ∧ w.cell? ⟨b, o + i * 4 + 1, none⟩ = some (.int .u32 e.num) ∧ w.cell? ⟨b, o + i * 4 + 2, none⟩ = some (.string e.name) ∧
      ∃ u, w.cell? ⟨b, o + i * 4 + 3, none⟩ = some u ∧ ExsAt w n u e.args) → ∃ cs, ExRow w n l cs ∧ ∀ j u, cs[j]? = some u → w.cell? ⟨b, o + j, none⟩ = some u
  | [], o, _ => ⟨[], rfl, fun j u h => by simp at h⟩
  | e :: l, o, h => by
    obtain ⟨c0, c1, c2, u, c3, hu⟩ := h 0 e rfl
    obtain ⟨cs, hr, hc⟩ := exRow_at l (o + 4) (fun i x hx => by
      have := h (i + 1) x (by simpa using hx)
      rwa [show o + (i + 1) * 4 = o + 4 + i * 4 by omega] at this)
    refine ⟨_, ⟨u, cs, rfl, hu, hr⟩, fun j v hj => ?_⟩
    rw [Nat.zero_mul, Nat.add_zero] at c0 c1 c2 c3
    match j, hj with
    | 0, hj => simp at hj; subst hj; exact c0
    | 1, hj => simp at hj; subst hj; exact c1
    | 2, hj => simp at hj; subst hj; exact c2
    | 3, hj => simp at hj; subst hj; exact c3
    | j + 4, hj =>
      have := hc j v (by simpa using hj)
      rwa [show o + 4 + j = o + (j + 4) by omega] at this
/-- A slice of expressions, as its cells. -/
theorem ExsAt.slc {w : World} {n : Nat} {v : Value} {l : List Ex} (h : ExsAt w n v l) : ∃ cs, Slc w 4 v l.length cs ∧ ExRow w n l cs := by
  cases n with
  | zero =>
    obtain ⟨rfl, a, cap, rfl, h1⟩ := h
    exact ⟨[], ⟨a, cap, rfl, Nat.zero_le _, h1, rfl, .inl rfl⟩, rfl⟩
  | succ n =>
    obtain ⟨a, cap, rfl, h1, h2, h3⟩ := h
    rcases h3 with rfl | ⟨b, o, rfl, hb, hc⟩
    · exact ⟨[], ⟨a, cap, rfl, Nat.zero_le _, h2, rfl, .inl rfl⟩, rfl⟩
    · obtain ⟨cs, hr, hj⟩ := exRow_at l o hc
      have hr' : ExRow w (n + 1) l cs := by
        clear hc hj
        induction l generalizing cs with
        | nil => exact hr
        | cons e l ih =>
          obtain ⟨u, r, rfl, hu, hr⟩ := hr
          exact ⟨u, r, rfl, hu.mono, ih (by simp at h1; omega) r hr⟩
      exact ⟨cs, ⟨_, cap, rfl, h1, h2, hr.length, .inr ⟨b, o, rfl, hb, hj⟩⟩, hr'⟩
/-- And back. -/
theorem ExRow.exs {w : World} {n : Nat} {v : Value} {l : List Ex} {cs : List Value} (h : ExRow w n l cs) (hs : Slc w 4 v l.length cs) : ExsAt w (n + 1) v l := by
  obtain ⟨a, cap, rfl, h1, h2, h3, h4⟩ := hs
  refine ⟨a, cap, rfl, h1, h2, ?_⟩
  rcases h4 with h0 | ⟨b, o, rfl, hb, hc⟩
  · exact .inl (List.eq_nil_of_length_eq_zero h0)
  · refine .inr ⟨b, o, rfl, hb, fun i e he => ?_⟩
    obtain ⟨c0, c1, c2, u, c3, hu⟩ := h.get he
    refine ⟨hc _ _ c0, ?_, ?_, u, ?_, hu⟩
    · rw [Nat.add_assoc]; exact hc _ _ c1
    · rw [Nat.add_assoc]; exact hc _ _ c2
    · rw [Nat.add_assoc]; exact hc _ _ c3
theorem ExRow.mono_le {w : World} {n m : Nat} (hm : n ≤ m) : ∀ {l : List Ex} {cs : List Value}, ExRow w n l cs → ExRow w m l cs
  | [], _, h => h
  | e :: l, _, h => by
    obtain ⟨u, r, rfl, hu, hr⟩ := h
    exact ⟨u, r, rfl, hu.mono_le hm, ExRow.mono_le hm hr⟩
theorem Try.infoExpr : (Try.prog.info? 42).map (fun i => (i.zero, i.size, i.bytes)) = some (some (.agg #[.string ⟨#[]⟩, .int .u32 0, .string ⟨#[]⟩, .slice none 0 0]), 4, 64) := by kernel_rfl
/-- Two slices of expressions, one behind the other in a row of the call's own. -/
theorem exs_joined {w0 w : World} {base n1 n2 : Nat} {v : Value} {l1 l2 : List Ex} {c1 c2 : List Value} (h1 : ExRow w0 n1 l1 c1) (h2 : ExRow w0 n2 l2 c2) (hb : Below w0.heap.size w0 w) (h : w.ownsRow base 42 4 v (l1 ++ l2).length (c1 ++ c2)) : ∃ n, ExsAt w n v (l1 ++ l2) :=
  ⟨_, (((h1.mono_le (Nat.le_max_left n1 n2)).append (h2.mono_le (Nat.le_max_right n1 n2))).below hb (Nat.le_refl _)).exs (Slc.of_owns h)⟩
end Go.Proofs.Ytgimdbflpdmlmaa
