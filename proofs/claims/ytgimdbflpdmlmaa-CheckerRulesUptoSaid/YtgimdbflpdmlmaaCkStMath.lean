/- The plain checker's statements taken apart; bounds. No program in sight. -/
import Derived.Test.YtgimdbflpdmlmaaCkBound
namespace Go.Proofs.Ytgimdbflpdmlmaa.Ck
set_option maxRecDepth 100000
open Go.Proofs.Ytgimdbflpdmlmaa

theorem stsC_nil (c : Cx) (d : Nat) : stsC c [] d = .ok (0, d) := by rw [stsC]
theorem stsC_cons (c : Cx) (s : St) (l : List St) (d : Nat) : stsC c (s :: l) d = (stC c s d).bind fun r => (stsC c l r.2).bind fun q => .ok (max r.1 q.1, q.2) := by rw [stsC]
theorem stsC_append (c : Cx) : ∀ (l m : List St) (d : Nat), stsC c (l ++ m) d = (stsC c l d).bind fun q => (stsC c m q.2).bind fun s => .ok (max q.1 s.1, s.2)
  | [], m, d => by
    rw [stsC_nil, Res.bind_ok, List.nil_append]
    cases stsC c m d with
    | bad v => rfl
    | ok q => simp only [Res.bind_ok]; rw [Nat.max_eq_right (Nat.zero_le _)]
  | e :: l, m, d => by
    rw [List.cons_append, stsC_cons, stsC_cons]
    cases stC c e d with
    | bad v => rfl
    | ok r =>
      simp only [Res.bind_ok]
      rw [stsC_append c l m]
      cases stsC c l r.2 with
      | bad v => rfl
      | ok q =>
        simp only [Res.bind_ok]
        cases stsC c m q.2 with
        | bad v => rfl
        | ok s => simp only [Res.bind_ok]; rw [Nat.max_assoc]
theorem stsC_snoc_ok {c : Cx} {l : List St} {s : St} {d d1 d2 n m : Nat} (h1 : stsC c l d = .ok (m, d1)) (h2 : stC c s d1 = .ok (n, d2)) : stsC c (l ++ [s]) d = .ok (max m n, d2) := by
  rw [stsC_append, h1, Res.bind_ok, stsC_cons]
  simp only [h2, Res.bind_ok, stsC_nil]
  rw [Nat.max_eq_left (Nat.zero_le n)]
theorem stsC_bad {c : Cx} {l m : List St} {s : St} {d d1 n : Nat} {v : Viol} (h1 : stsC c l d = .ok (n, d1)) (h2 : stC c s d1 = .bad v) : stsC c (l ++ s :: m) d = .bad v := by
  rw [stsC_append, h1, Res.bind_ok, stsC_cons]
  simp only [h2, Res.bind_bad]
theorem first_le {c : Cx} {K0 : Nat} (hs : Small c K0) {l : List Ex} {d n d' : Nat} (h : first c l d = .ok (n, d')) : n ≤ K0 + 5 * nodesL l ∧ d' ≤ max d K0 := by
  unfold first at h
  cases l with
  | nil => cases h; omega
  | cons e l =>
    obtain ⟨h1, h2⟩ := exprC_le hs e d n d' h
    rw [nodesL]
    omega
mutual
theorem stC_le {c : Cx} {K0 : Nat} (hs : Small c K0) : ∀ (s : St) (d n d' : Nat), stC c s d = .ok (n, d') → n ≤ K0 + 5 * s.nodes ∧ d' ≤ max d K0
  | .mk k name index value thn els, d, n, d', h => by
    rw [stC] at h
    rw [St.nodes]
    cases hr : req (formed (.mk k name index value thn els)) c.name 3 with
    | bad v => rw [hr, Res.bind_bad] at h; cases h
    | ok u =>
      rw [hr, Res.bind_ok] at h
      by_cases h7 : k = 7
      · rw [if_pos h7] at h; cases h; omega
      · rw [if_neg h7] at h
        cases hf : first c value d with
        | bad v => rw [hf, Res.bind_bad] at h; cases h
        | ok r =>
          obtain ⟨m, d1⟩ := r
          rw [hf, Res.bind_ok] at h
          obtain ⟨a1, a2⟩ := first_le hs hf
          by_cases h1 : k = 1
          · rw [if_pos h1] at h
            cases hx : scalarC c name with
            | bad v => rw [hx, Res.bind_bad] at h; cases h
            | ok u => rw [hx, Res.bind_ok] at h; cases h; omega
          · rw [if_neg h1] at h
            by_cases h2 : k = 2
            · rw [if_pos h2] at h
              cases hi : first c index d1 with
              | bad v => simp only [hi, Res.bind_bad] at h; cases h
              | ok q =>
                obtain ⟨m2, d2⟩ := q
                simp only [hi, Res.bind_ok] at h
                obtain ⟨b1, b2⟩ := first_le hs hi
                cases hx : arrayC c name with
                | bad v => rw [hx, Res.bind_bad] at h; cases h
                | ok u => rw [hx, Res.bind_ok] at h; cases h; omega
            · rw [if_neg h2] at h
              by_cases h5 : k = 5
              · rw [if_pos h5] at h; cases h; omega
              · rw [if_neg h5] at h
                by_cases h3 : k = 3 ∨ k = 4
                · rw [if_pos h3] at h
                  cases ht : stsC c thn d1 with
                  | bad v => simp only [ht, Res.bind_bad] at h; cases h
                  | ok t =>
                    obtain ⟨m3, d3⟩ := t
                    simp only [ht, Res.bind_ok] at h
                    obtain ⟨b1, b2⟩ := stsC_le hs thn d1 m3 d3 ht
                    cases he : stsC c els d3 with
                    | bad v => simp only [he, Res.bind_bad] at h; cases h
                    | ok z =>
                      obtain ⟨m4, d4⟩ := z
                      simp only [he, Res.bind_ok] at h
                      obtain ⟨c1, c2⟩ := stsC_le hs els d3 m4 d4 he
                      cases h
                      omega
                · rw [if_neg h3] at h; cases h; omega
theorem stsC_le {c : Cx} {K0 : Nat} (hs : Small c K0) : ∀ (l : List St) (d n d' : Nat), stsC c l d = .ok (n, d') → n ≤ K0 + 5 * nodesS l ∧ d' ≤ max d K0
  | [], d, n, d', h => by
    rw [stsC_nil] at h
    cases h
    omega
  | s :: l, d, n, d', h => by
    rw [stsC_cons] at h
    rw [nodesS]
    cases hx : stC c s d with
    | bad v => rw [hx, Res.bind_bad] at h; cases h
    | ok r =>
      obtain ⟨m, d1⟩ := r
      simp only [hx, Res.bind_ok] at h
      obtain ⟨a1, a2⟩ := stC_le hs s d m d1 hx
      cases hy : stsC c l d1 with
      | bad v => rw [hy, Res.bind_bad] at h; cases h
      | ok q =>
        obtain ⟨m2, d2⟩ := q
        simp only [hy, Res.bind_ok] at h
        obtain ⟨b1, b2⟩ := stsC_le hs l d1 m2 d2 hy
        cases h
        omega
end
end Go.Proofs.Ytgimdbflpdmlmaa.Ck
