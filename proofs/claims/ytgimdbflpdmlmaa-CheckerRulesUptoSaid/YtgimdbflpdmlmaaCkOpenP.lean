/- A program that comes in, opened: functions, arrays, variables; bounds by the datum's bulk. No condition. -/
import Derived.Test.YtgimdbflpdmlmaaCkOpen
import Derived.Test.YtgimdbflpdmlmaaCkScalars
namespace Go.Proofs.Ytgimdbflpdmlmaa
set_option maxRecDepth 100000
open Go.RowKit Go.Shelf Go.Proofs.Ytgimdbflpdmlmaa.Ck Go.ChangeShapes Go.WideShapes Go.ChangeAt

theorem sum_bulk {H α : Type} (g : α → Nat) : ∀ (l : List α) (ds : List (DataW H)), l.length = ds.length → (∀ (i : Nat) (s : α) (d : DataW H), l[i]? = some s → ds[i]? = some d → g s ≤ Rows.uptoBulk d) → (l.map g).sum ≤ Rows.uptoBulkAll ds
  | [], _, _, _ => by simp
  | e :: l, [], h, _ => by simp at h
  | e :: l, d :: ds, h, hp => by
    have h1 := hp 0 e d rfl rfl
    have h2 := sum_bulk g l ds (by simpa using h) (fun i e d he hd => hp (i + 1) e d (by simpa using he) (by simpa using hd))
    simp only [List.map_cons, List.sum_cons, Rows.uptoBulkAll]
    omega
/-- What a function weighs as a datum. -/
def fuBulk (f : Fu) : Nat := f.name.size + (f.params.map fun s => s.size + 1).sum + (f.locals.map fun s => s.size + 1).sum + szS f.body + 1
theorem open_fns {H : Type} {enc : TypeId × Value → H} {W : World} {d : DataW H} {pl : List MemPlace} {fuel : Nat} {cs : List Value} (h : DataW.trod enc Try.prog W 0 (fun _ => true) true fuel 24 cs = some (d, pl)) :
    ∃ v l, cs = [v] ∧ FnsAt W v l ∧ (l.map fuBulk).sum + 1 ≤ Rows.uptoBulk d := by
  rcases Go.Deep.open_slice Try.underlying24 h with ⟨rfl, hx⟩ | ⟨a, len, cap, m, n, D, Pl, rfl, hb, hl, hm, hmm, hx, hall⟩
  · have := bulk_pos d
    exact ⟨_, [], rfl, ⟨_, _, rfl, Nat.le_refl _, by decide, .inl rfl⟩, by simpa using this⟩
  · simp only [Prod.mk.injEq] at hx
    obtain ⟨rfl, _⟩ := hx
    have hc : Try.prog.cellsOf 36 = 4 := by kernel_rfl
    have hbulk := bulk_slice ((List.range len).map D) ((List.range (m - len)).map fun j => D (len + j))
    obtain ⟨l, hlen, hp⟩ := choose_list (p := fun i (f : Fu) => (W.cell? ((a.add (i * 4)).add 0) = some (.string f.name) ∧ ∃ up ul ub, W.cell? ((a.add (i * 4)).add 1) = some up ∧ W.cell? ((a.add (i * 4)).add 2) = some ul ∧ W.cell? ((a.add (i * 4)).add 3) = some ub ∧
        Strs W up f.params ∧ Strs W ul f.locals ∧ ∃ n, StsAt W n ub f.body) ∧ fuBulk f ≤ Rows.uptoBulk (D i)) len (fun i hi => by
      obtain ⟨cs', h2, h3⟩ := hall i (by rw [hmm]; simp; omega)
      rw [hc] at h2
      obtain ⟨_, hl4, hget⟩ := World.cells?_some h2
      obtain ⟨c0, c1, c2, c3, rfl⟩ : ∃ c0 c1 c2 c3, cs' = [c0, c1, c2, c3] := by
        match cs', hl4 with
        | [c0, c1, c2, c3], _ => exact ⟨c0, c1, c2, c3, rfl⟩
      obtain ⟨y0, ⟨d1, p1⟩, ⟨d2, p2⟩, ⟨d3, p3⟩, n', hx4, _, e0, e1, e2, e3⟩ := Go.Joins.trod_struct4 Try.underlying36 h3
      have e0' : DataW.trod enc Try.prog W 0 (fun _ => true) true n' 9 [c0] = some y0 := e0
      have e1' : DataW.trod enc Try.prog W 0 (fun _ => true) true n' 22 [c1] = some (d1, p1) := e1
      have e2' : DataW.trod enc Try.prog W 0 (fun _ => true) true n' 22 [c2] = some (d2, p2) := e2
      have e3' : DataW.trod enc Try.prog W 0 (fun _ => true) true n' 34 [c3] = some (d3, p3) := e3
      obtain ⟨s0, f0, rfl, _⟩ := DataW.trod_string Try.underlying9 e0'
      simp only [List.cons.injEq, and_true] at f0
      subst f0
      simp only [Prod.mk.injEq] at hx4
      have hD := hx4.1
      obtain ⟨v1, l1, hv1, hE1, hn1⟩ := open_names e1'
      obtain ⟨v2, l2, hv2, hE2, hn2⟩ := open_names e2'
      obtain ⟨v3, l3, hv3, hE3, hn3⟩ := open_sts (Rows.uptoBulk d3) d3 p3 n' [c3] (Nat.le_refl _) e3'
      simp only [List.cons.injEq, and_true] at hv1 hv2 hv3
      subst hv1; subst hv2; subst hv3
      refine ⟨⟨s0, l1, l2, l3⟩, ⟨hget 0 (by omega), c1, c2, c3, hget 1 (by omega), hget 2 (by omega), hget 3 (by omega), hE1, hE2, _, hE3⟩, ?_⟩
      rw [hD]
      unfold fuBulk
      simp only [Rows.uptoBulk, Rows.uptoBulkAll]
      simp
      omega)
    have hs := sum_bulk fuBulk l ((List.range len).map D) (by simp [hlen]) (fun i e d he hd => by
      have hi : i < len := by have := (List.getElem?_eq_some_iff.1 he).1; omega
      rw [List.getElem?_map, List.getElem?_range hi] at hd
      simp at hd
      subst hd
      exact (hp i e he).2)
    subst hlen
    refine ⟨_, l, rfl, ⟨some a, cap, rfl, hl, hm, ?_⟩, by omega⟩
    by_cases h0 : l = []
    · exact .inl h0
    · have hpos := List.length_pos_iff.2 h0
      obtain ⟨⟨g0, _⟩, _⟩ := hp 0 l[0] (List.getElem?_eq_getElem hpos)
      have hspot := addr_spot g0
      have hlt := cell_lt g0
      obtain ⟨b, o, sp⟩ := a
      simp only [Nat.zero_mul, Addr.add, if_true] at hspot hlt
      subst hspot
      exact .inr ⟨b, o, rfl, hlt, fun i e he => by
        have := (hp i e he).1
        simp only [Addr.add_lit, Nat.add_zero] at this
        exact this⟩
theorem open_ars {H : Type} {enc : TypeId × Value → H} {W : World} {d : DataW H} {pl : List MemPlace} {fuel : Nat} {cs : List Value} (h : DataW.trod enc Try.prog W 0 (fun _ => true) true fuel 23 cs = some (d, pl)) :
    ∃ v l, cs = [v] ∧ ArsAt W v l ∧ (l.map fun t => t.1.size + 1).sum + 1 ≤ Rows.uptoBulk d := by
  rcases Go.Deep.open_slice Try.underlying23 h with ⟨rfl, hx⟩ | ⟨a, len, cap, m, n, D, Pl, rfl, hb, hl, hm, hmm, hx, hall⟩
  · have := bulk_pos d
    exact ⟨_, [], rfl, ⟨_, _, rfl, Nat.le_refl _, by decide, .inl rfl⟩, by simpa using this⟩
  · simp only [Prod.mk.injEq] at hx
    obtain ⟨rfl, _⟩ := hx
    have hc : Try.prog.cellsOf 68 = 2 := by kernel_rfl
    have hbulk := bulk_slice ((List.range len).map D) ((List.range (m - len)).map fun j => D (len + j))
    obtain ⟨l, hlen, hp⟩ := choose_list (p := fun i (t : ByteArray × Int) => (W.cell? ((a.add (i * 2)).add 0) = some (.string t.1) ∧ W.cell? ((a.add (i * 2)).add 1) = some (.int .i64 t.2)) ∧ t.1.size + 1 ≤ Rows.uptoBulk (D i)) len (fun i hi => by
      obtain ⟨cs', h2, h3⟩ := hall i (by rw [hmm]; simp; omega)
      rw [hc] at h2
      obtain ⟨_, hl4, hget⟩ := World.cells?_some h2
      obtain ⟨c0, c1, rfl⟩ : ∃ c0 c1, cs' = [c0, c1] := by
        match cs', hl4 with
        | [c0, c1], _ => exact ⟨c0, c1, rfl⟩
      obtain ⟨y0, y1, n', hx4, _, e0, e1⟩ := trod_struct2 Try.underlying68 h3
      have e0' : DataW.trod enc Try.prog W 0 (fun _ => true) true n' 9 [c0] = some y0 := e0
      have e1' : DataW.trod enc Try.prog W 0 (fun _ => true) true n' 3 [c1] = some y1 := e1
      obtain ⟨s0, f0, rfl, _⟩ := DataW.trod_string Try.underlying9 e0'
      obtain ⟨k1, f1, rfl, _⟩ := DataW.trod_int Try.underlying3 e1'
      simp only [List.cons.injEq, and_true] at f0 f1
      subst f0; subst f1
      simp only [Prod.mk.injEq] at hx4
      have hD := hx4.1
      refine ⟨(s0, k1), ⟨hget 0 (by omega), hget 1 (by omega)⟩, ?_⟩
      rw [hD]
      simp only [Rows.uptoBulk, Rows.uptoBulkAll]
      simp)
    have hs := sum_bulk (fun t : ByteArray × Int => t.1.size + 1) l ((List.range len).map D) (by simp [hlen]) (fun i e d he hd => by
      have hi : i < len := by have := (List.getElem?_eq_some_iff.1 he).1; omega
      rw [List.getElem?_map, List.getElem?_range hi] at hd
      simp at hd
      subst hd
      exact (hp i e he).2)
    subst hlen
    refine ⟨_, l, rfl, ⟨some a, cap, rfl, hl, hm, ?_⟩, by omega⟩
    by_cases h0 : l = []
    · exact .inl h0
    · have hpos := List.length_pos_iff.2 h0
      obtain ⟨⟨g0, _⟩, _⟩ := hp 0 l[0] (List.getElem?_eq_getElem hpos)
      have hspot := addr_spot g0
      have hlt := cell_lt g0
      obtain ⟨b, o, sp⟩ := a
      simp only [Nat.zero_mul, Addr.add, if_true] at hspot hlt
      subst hspot
      exact .inr ⟨b, o, rfl, hlt, fun i e he => by
        have := (hp i e he).1
        simp only [Addr.add_lit, Nat.add_zero] at this
        exact this⟩
theorem fuBulk_sum : ∀ l : List Fu, (l.map fun f => 4 + f.params.length + f.locals.length + 5 * nodesS f.body).sum ≤ 5 * (l.map fuBulk).sum
  | [] => by simp
  | f :: l => by
    have h := fuBulk_sum l
    have h0 := nodes_szS f.body
    have h1 := (sum_ge f.params).1
    have h2 := (sum_ge f.locals).1
    simp only [List.map_cons, List.sum_cons]
    unfold fuBulk
    unfold fuBulk at h
    omega
/-- A program that comes in, whole. -/
theorem open_prog {H : Type} {enc : TypeId × Value → H} {W : World} {v : Value} {d : DataW H} {ps : List MemPlace} {r : Reach} {b0 : Nat} (hval : Value.okWide Try.prog W r b0 26 v)
    (hd : DataW.Trod enc Try.prog W 0 (fun _ => true) true 26 v d ps) (hb : Rows.uptoBulk d ≤ 1048576) :
    ∃ vs rs fs p, v = .agg #[vs, rs, fs] ∧ PrAt W vs rs fs p ∧ p.vars.length + p.arrays.length + (p.funcs.map fun f => 4 + f.params.length + f.locals.length + 5 * nodesS f.body).sum ≤ 100000000 ∧
      (p.vars.map fun s => s.size + 1).sum + (p.arrays.map fun t => t.1.size + 1).sum + (p.funcs.map fuBulk).sum ≤ 1048576 := by
  obtain ⟨cs, rfl, hsz⟩ : ∃ cs : Array Value, v = .agg cs ∧ cs.size = 3 := by
    unfold Value.okWide at hval
    rw [Try.underlying26] at hval
    obtain ⟨cs, h1, h2, _⟩ := hval
    exact ⟨cs, h1, h2.trans (by kernel_rfl)⟩
  obtain ⟨c0, c1, c2, rfl⟩ : ∃ c0 c1 c2, cs = #[c0, c1, c2] := by
    obtain ⟨l⟩ := cs
    match l, hsz with
    | [c0, c1, c2], _ => exact ⟨c0, c1, c2, rfl⟩
  obtain ⟨fuel, hf⟩ := hd
  have hf' : DataW.trod enc Try.prog W 0 (fun _ => true) true fuel 26 [c0, c1, c2] = some (d, ps) := hf
  obtain ⟨⟨d0, p0⟩, ⟨d1, p1⟩, ⟨d2, p2⟩, n, hx, _, e0, e1, e2⟩ := Go.Deep.trod_struct3 Try.underlying26 hf'
  have e0' : DataW.trod enc Try.prog W 0 (fun _ => true) true n 22 [c0] = some (d0, p0) := e0
  have e1' : DataW.trod enc Try.prog W 0 (fun _ => true) true n 23 [c1] = some (d1, p1) := e1
  have e2' : DataW.trod enc Try.prog W 0 (fun _ => true) true n 24 [c2] = some (d2, p2) := e2
  obtain ⟨v0, l0, h0, g0, k0⟩ := open_names e0'
  obtain ⟨v1, l1, h1, g1, k1⟩ := open_ars e1'
  obtain ⟨v2, l2, h2, g2, k2⟩ := open_fns e2'
  simp only [List.cons.injEq, and_true] at h0 h1 h2
  subst h0; subst h1; subst h2
  simp only [Prod.mk.injEq] at hx
  obtain ⟨rfl, _⟩ := hx
  simp only [Rows.uptoBulk, Rows.uptoBulkAll] at hb
  have q0 := (sum_ge l0).1
  have q1 : l1.length ≤ (l1.map fun t => t.1.size + 1).sum := by
    clear k1 g1 e1 e1' hf hf'
    induction l1 with
    | nil => simp
    | cons x l ih => simp only [List.map_cons, List.sum_cons, List.length_cons]; omega
  have q2 := fuBulk_sum l2
  refine ⟨c0, c1, c2, ⟨l0, l1, l2⟩, rfl, ⟨g0, g1, g2⟩, ?_, ?_⟩
  · show l0.length + l1.length + (l2.map fun f => 4 + f.params.length + f.locals.length + 5 * nodesS f.body).sum ≤ 100000000
    omega
  · show (l0.map fun s => s.size + 1).sum + (l1.map fun t => t.1.size + 1).sum + (l2.map fuBulk).sum ≤ 1048576
    omega
end Go.Proofs.Ytgimdbflpdmlmaa
