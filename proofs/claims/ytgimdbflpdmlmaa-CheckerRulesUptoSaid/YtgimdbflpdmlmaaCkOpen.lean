/- Expressions that come in, opened: their tree, no more nodes than the datum's bulk. No condition. -/
import Derived.Test.YtgimdbflpdmlmaaCkSz
import Derived.Test.YtgimdbflpdmlmaaOpenSlice
import Derived.Test.YtgimdbflpdmlmaaLawUpto
import Derived.Lib.SmallJoins
namespace Go.Proofs.Ytgimdbflpdmlmaa
set_option maxRecDepth 100000
open Go.RowKit Go.Shelf Go.Proofs.Ytgimdbflpdmlmaa.Ck Go.ChangeShapes Go.WideShapes Go.ChangeAt

theorem choose_list {α : Type} {p : Nat → α → Prop} : ∀ n : Nat, (∀ i, i < n → ∃ x, p i x) → ∃ l : List α, l.length = n ∧ ∀ i x, l[i]? = some x → p i x
  | 0, _ => ⟨[], rfl, fun i x h => by simp at h⟩
  | n + 1, h => by
    obtain ⟨l, h1, h2⟩ := choose_list n (fun i hi => h i (by omega))
    obtain ⟨x, hx⟩ := h n (by omega)
    refine ⟨l ++ [x], by simp [h1], fun i y hi => ?_⟩
    by_cases hl : i < l.length
    · rw [List.getElem?_append_left hl] at hi; exact h2 i y hi
    · rw [List.getElem?_append_right (by omega)] at hi
      obtain rfl : i = n := by have := (List.getElem?_eq_some_iff.1 hi).1; simp at this; omega
      rw [h1, Nat.sub_self] at hi
      simp at hi
      subst hi
      exact hx
theorem szL_le {H : Type} {g : Ex → DataW H → Prop} (hg : ∀ e d, g e d → e.sz ≤ Rows.uptoBulk d) : ∀ (l : List Ex) (ds : List (DataW H)), l.length = ds.length → (∀ (i : Nat) (e : Ex) (d : DataW H), l[i]? = some e → ds[i]? = some d → g e d) → szL l ≤ Rows.uptoBulkAll ds
  | [], _, _, _ => by rw [szL]; exact Nat.zero_le _
  | e :: l, [], h, _ => by simp at h
  | e :: l, d :: ds, h, hp => by
    have h1 := hg e d (hp 0 e d rfl rfl)
    have h2 := szL_le hg l ds (by simpa using h) (fun i e d he hd => hp (i + 1) e d (by simpa using he) (by simpa using hd))
    rw [szL]
    simp only [Rows.uptoBulkAll]
    omega
theorem open_exs {H : Type} {enc : TypeId × Value → H} {W : World} : ∀ (N : Nat) (d : DataW H) (pl : List MemPlace) (fuel : Nat) (cs : List Value), Rows.uptoBulk d ≤ N → DataW.trod enc Try.prog W 0 (fun _ => true) true fuel 40 cs = some (d, pl) →
    ∃ v l, cs = [v] ∧ ExsAt W N v l ∧ szL l ≤ Rows.uptoBulk d := by
  intro N
  induction N with
  | zero => intro d pl fuel cs hN _; have := bulk_pos d; omega
  | succ N ih =>
    intro d pl fuel cs hN h
    rcases Go.Deep.open_slice Try.underlying40 h with ⟨rfl, hx⟩ | ⟨a, len, cap, m, n, D, Pl, rfl, hb, hl, hm, hmm, hx, hall⟩
    · exact ⟨_, [], rfl, ⟨_, _, rfl, Nat.le_refl _, by decide, .inl rfl⟩, by rw [szL]; exact Nat.zero_le _⟩
    · simp only [Prod.mk.injEq] at hx
      obtain ⟨rfl, _⟩ := hx
      have hc : Try.prog.cellsOf 42 = 4 := by kernel_rfl
      have hbulk := bulk_slice ((List.range len).map D) ((List.range (m - len)).map fun j => D (len + j))
      obtain ⟨l, hlen, hp⟩ := choose_list (p := fun i (e : Ex) => (W.cell? ((a.add (i * 4)).add 0) = some (.string e.op) ∧ W.cell? ((a.add (i * 4)).add 1) = some (.int .u32 e.num) ∧ W.cell? ((a.add (i * 4)).add 2) = some (.string e.name) ∧ ∃ u, W.cell? ((a.add (i * 4)).add 3) = some u ∧ ExsAt W N u e.args) ∧ e.sz ≤ Rows.uptoBulk (D i)) len (fun i hi => by
        obtain ⟨cs', h2, h3⟩ := hall i (by rw [hmm]; simp; omega)
        rw [hc] at h2
        obtain ⟨_, hl4, hget⟩ := World.cells?_some h2
        obtain ⟨c0, c1, c2, c3, rfl⟩ : ∃ c0 c1 c2 c3, cs' = [c0, c1, c2, c3] := by
          match cs', hl4 with
          | [c0, c1, c2, c3], _ => exact ⟨c0, c1, c2, c3, rfl⟩
        obtain ⟨y0, y1, y2, ⟨d3, p3⟩, n', hx4, _, e0, e1, e2, e3⟩ := Go.Joins.trod_struct4 Try.underlying42 h3
        have e0' : DataW.trod enc Try.prog W 0 (fun _ => true) true n' 9 [c0] = some y0 := e0
        have e1' : DataW.trod enc Try.prog W 0 (fun _ => true) true n' 39 [c1] = some y1 := e1
        have e2' : DataW.trod enc Try.prog W 0 (fun _ => true) true n' 9 [c2] = some y2 := e2
        have e3' : DataW.trod enc Try.prog W 0 (fun _ => true) true n' 40 [c3] = some (d3, p3) := e3
        obtain ⟨s0, f0, rfl, _⟩ := DataW.trod_string Try.underlying9 e0'
        obtain ⟨k1, f1, rfl, _⟩ := DataW.trod_int Try.underlying39 e1'
        obtain ⟨s2, f2, rfl, _⟩ := DataW.trod_string Try.underlying9 e2'
        simp only [List.cons.injEq, and_true] at f0 f1 f2
        subst f0; subst f1; subst f2
        simp only [Prod.mk.injEq] at hx4
        have hD := hx4.1
        have hbi : Rows.uptoBulk (D i) ≤ Rows.uptoBulkAll ((List.range len).map D) := bulk_mem (List.mem_map.2 ⟨i, List.mem_range.2 hi, rfl⟩)
        have hbd : Rows.uptoBulk d3 + s0.size + s2.size + 1 ≤ Rows.uptoBulk (D i) := by
          rw [hD]
          simp only [Rows.uptoBulk, Rows.uptoBulkAll]
          simp
          omega
        obtain ⟨v3, l3, hv3, hE3, hn3⟩ := ih d3 p3 n' [c3] (by omega) e3'
        simp only [List.cons.injEq, and_true] at hv3
        subst hv3
        have g0 := hget 0 (by omega)
        have g1 := hget 1 (by omega)
        have g2 := hget 2 (by omega)
        have g3 := hget 3 (by omega)
        refine ⟨.mk s0 k1 s2 l3, ⟨g0, g1, g2, c3, g3, hE3⟩, ?_⟩
        rw [Ex.sz]
        omega)
      have hnl : szL l ≤ Rows.uptoBulkAll ((List.range len).map D) := szL_le (g := fun e d => e.sz ≤ Rows.uptoBulk d) (fun e d h => h) l _ (by simp [hlen]) (fun i e d he hd => by
        have hi : i < len := by have := (List.getElem?_eq_some_iff.1 he).1; omega
        rw [List.getElem?_map, List.getElem?_range hi] at hd
        simp at hd
        subst hd
        exact (hp i e he).2)
      subst hlen
      refine ⟨_, l, rfl, ⟨some a, cap, rfl, hl, hm, ?_⟩, by omega⟩
      by_cases h0 : l = []
      · exact .inl h0
      · have hpos := List.length_pos_iff.2 h0
        obtain ⟨⟨g0, _⟩, _⟩ := hp 0 l[0] (List.getElem?_eq_getElem hpos)
        have hspot := addr_spot g0
        have hlt := cell_lt g0
        obtain ⟨b, o, sp⟩ := a
        simp only [Nat.zero_mul, Addr.add, if_true] at hspot hlt
        subst hspot
        exact .inr ⟨b, o, rfl, hlt, fun i e he => by
          have := (hp i e he).1
          simp only [Addr.add_lit, Nat.add_zero] at this
          exact this⟩

theorem trod_struct6 {H : Type} {enc : TypeId × Value → H} {P : Program} {w : World} {base : Nat} {spare : Nat → Bool} {held : Bool} {t : TypeId} {f0 f1 f2 f3 f4 f5 : Field} {fuel : Nat} {cs : List Value} {x : DataW H × List MemPlace} (ht : P.underlying t = some (.struct #[f0, f1, f2, f3, f4, f5])) (h : DataW.trod enc P w base spare held fuel t cs = some x) :
    ∃ y0 y1 y2 y3 y4 y5 n, x.1 = .agg [y0.1, y1.1, y2.1, y3.1, y4.1, y5.1] ∧ DataW.trod enc P w base spare held n f0.type ((cs.drop f0.offset).take (P.cellsOf f0.type)) = some y0 ∧
      DataW.trod enc P w base spare held n f1.type ((cs.drop f1.offset).take (P.cellsOf f1.type)) = some y1 ∧ DataW.trod enc P w base spare held n f2.type ((cs.drop f2.offset).take (P.cellsOf f2.type)) = some y2 ∧
      DataW.trod enc P w base spare held n f3.type ((cs.drop f3.offset).take (P.cellsOf f3.type)) = some y3 ∧ DataW.trod enc P w base spare held n f4.type ((cs.drop f4.offset).take (P.cellsOf f4.type)) = some y4 ∧
      DataW.trod enc P w base spare held n f5.type ((cs.drop f5.offset).take (P.cellsOf f5.type)) = some y5 := by
  obtain ⟨xs, n, _, rfl, hl, hlen, hf⟩ := DataW.trod_struct ht h
  match xs, hlen with
  | [y0, y1, y2, y3, y4, y5], _ => exact ⟨y0, y1, y2, y3, y4, y5, n, by simp, by simpa using hf 0 f0 rfl, by simpa using hf 1 f1 rfl, by simpa using hf 2 f2 rfl, by simpa using hf 3 f3 rfl, by simpa using hf 4 f4 rfl, by simpa using hf 5 f5 rfl⟩
theorem szS_le {H : Type} : ∀ (l : List St) (ds : List (DataW H)), l.length = ds.length → (∀ (i : Nat) (e : St) (d : DataW H), l[i]? = some e → ds[i]? = some d → e.sz ≤ Rows.uptoBulk d) → szS l ≤ Rows.uptoBulkAll ds
  | [], _, _, _ => by rw [szS]; exact Nat.zero_le _
  | e :: l, [], h, _ => by simp at h
  | e :: l, d :: ds, h, hp => by
    have h1 := hp 0 e d rfl rfl
    have h2 := szS_le l ds (by simpa using h) (fun i e d he hd => hp (i + 1) e d (by simpa using he) (by simpa using hd))
    rw [szS]
    simp only [Rows.uptoBulkAll]
    omega
theorem open_sts {H : Type} {enc : TypeId × Value → H} {W : World} : ∀ (N : Nat) (d : DataW H) (pl : List MemPlace) (fuel : Nat) (cs : List Value), Rows.uptoBulk d ≤ N → DataW.trod enc Try.prog W 0 (fun _ => true) true fuel 34 cs = some (d, pl) →
    ∃ v l, cs = [v] ∧ StsAt W N v l ∧ szS l ≤ Rows.uptoBulk d := by
  intro N
  induction N with
  | zero => intro d pl fuel cs hN _; have := bulk_pos d; omega
  | succ N ih =>
    intro d pl fuel cs hN h
    rcases Go.Deep.open_slice Try.underlying34 h with ⟨rfl, hx⟩ | ⟨a, len, cap, m, n, D, Pl, rfl, hb, hl, hm, hmm, hx, hall⟩
    · exact ⟨_, [], rfl, ⟨_, _, rfl, Nat.le_refl _, by decide, .inl rfl⟩, by rw [szS]; exact Nat.zero_le _⟩
    · simp only [Prod.mk.injEq] at hx
      obtain ⟨rfl, _⟩ := hx
      have hc : Try.prog.cellsOf 46 = 6 := by kernel_rfl
      have hbulk := bulk_slice ((List.range len).map D) ((List.range (m - len)).map fun j => D (len + j))
      obtain ⟨l, hlen, hp⟩ := choose_list (p := fun i (s : St) => (W.cell? ((a.add (i * 6)).add 0) = some (.int .i64 s.kind) ∧ W.cell? ((a.add (i * 6)).add 1) = some (.string s.name) ∧
          ∃ ui uv ut ue, W.cell? ((a.add (i * 6)).add 2) = some ui ∧ W.cell? ((a.add (i * 6)).add 3) = some uv ∧ W.cell? ((a.add (i * 6)).add 4) = some ut ∧ W.cell? ((a.add (i * 6)).add 5) = some ue ∧
            (∃ m, ExsAt W m ui s.index) ∧ (∃ m, ExsAt W m uv s.value) ∧ StsAt W N ut s.thn ∧ StsAt W N ue s.els) ∧ s.sz ≤ Rows.uptoBulk (D i)) len (fun i hi => by
        obtain ⟨cs', h2, h3⟩ := hall i (by rw [hmm]; simp; omega)
        rw [hc] at h2
        obtain ⟨_, hl4, hget⟩ := World.cells?_some h2
        obtain ⟨c0, c1, c2, c3, c4, c5, rfl⟩ : ∃ c0 c1 c2 c3 c4 c5, cs' = [c0, c1, c2, c3, c4, c5] := by
          match cs', hl4 with
          | [c0, c1, c2, c3, c4, c5], _ => exact ⟨c0, c1, c2, c3, c4, c5, rfl⟩
        obtain ⟨y0, y1, ⟨d2, p2⟩, ⟨d3, p3⟩, ⟨d4, p4⟩, ⟨d5, p5⟩, n', hD, e0, e1, e2, e3, e4, e5⟩ := trod_struct6 Try.underlying46 h3
        have e0' : DataW.trod enc Try.prog W 0 (fun _ => true) true n' 3 [c0] = some y0 := e0
        have e1' : DataW.trod enc Try.prog W 0 (fun _ => true) true n' 9 [c1] = some y1 := e1
        have e2' : DataW.trod enc Try.prog W 0 (fun _ => true) true n' 40 [c2] = some (d2, p2) := e2
        have e3' : DataW.trod enc Try.prog W 0 (fun _ => true) true n' 40 [c3] = some (d3, p3) := e3
        have e4' : DataW.trod enc Try.prog W 0 (fun _ => true) true n' 34 [c4] = some (d4, p4) := e4
        have e5' : DataW.trod enc Try.prog W 0 (fun _ => true) true n' 34 [c5] = some (d5, p5) := e5
        obtain ⟨k0, f0, rfl, _⟩ := DataW.trod_int Try.underlying3 e0'
        obtain ⟨s1, f1, rfl, _⟩ := DataW.trod_string Try.underlying9 e1'
        simp only [List.cons.injEq, and_true] at f0 f1
        subst f0; subst f1
        have hbi : Rows.uptoBulk (D i) ≤ Rows.uptoBulkAll ((List.range len).map D) := bulk_mem (List.mem_map.2 ⟨i, List.mem_range.2 hi, rfl⟩)
        have hbd : Rows.uptoBulk d2 + Rows.uptoBulk d3 + Rows.uptoBulk d4 + Rows.uptoBulk d5 + s1.size + 1 ≤ Rows.uptoBulk (D i) := by
          simp only at hD
          rw [hD]
          simp only [Rows.uptoBulk, Rows.uptoBulkAll]
          simp
          omega
        obtain ⟨v2, l2, hv2, hE2, hn2⟩ := open_exs (Rows.uptoBulk d2) d2 p2 n' [c2] (Nat.le_refl _) e2'
        obtain ⟨v3, l3, hv3, hE3, hn3⟩ := open_exs (Rows.uptoBulk d3) d3 p3 n' [c3] (Nat.le_refl _) e3'
        obtain ⟨v4, l4, hv4, hE4, hn4⟩ := ih d4 p4 n' [c4] (by omega) e4'
        obtain ⟨v5, l5, hv5, hE5, hn5⟩ := ih d5 p5 n' [c5] (by omega) e5'
        simp only [List.cons.injEq, and_true] at hv2 hv3 hv4 hv5
        subst hv2; subst hv3; subst hv4; subst hv5
        have g0 := hget 0 (by omega)
        have g1 := hget 1 (by omega)
        have g2 := hget 2 (by omega)
        have g3 := hget 3 (by omega)
        have g4 := hget 4 (by omega)
        have g5 := hget 5 (by omega)
        refine ⟨.mk k0 s1 l2 l3 l4 l5, ⟨g0, g1, c2, c3, c4, c5, g2, g3, g4, g5, ⟨_, hE2⟩, ⟨_, hE3⟩, hE4, hE5⟩, ?_⟩
        rw [St.sz]
        omega)
      have hnl : szS l ≤ Rows.uptoBulkAll ((List.range len).map D) := szS_le l _ (by simp [hlen]) (fun i e d he hd => by
        have hi : i < len := by have := (List.getElem?_eq_some_iff.1 he).1; omega
        rw [List.getElem?_map, List.getElem?_range hi] at hd
        simp at hd
        subst hd
        exact (hp i e he).2)
      subst hlen
      refine ⟨_, l, rfl, ⟨some a, cap, rfl, hl, hm, ?_⟩, by omega⟩
      by_cases h0 : l = []
      · exact .inl h0
      · have hpos := List.length_pos_iff.2 h0
        obtain ⟨⟨g0, _⟩, _⟩ := hp 0 l[0] (List.getElem?_eq_getElem hpos)
        have hspot := addr_spot g0
        have hlt := cell_lt g0
        obtain ⟨b, o, sp⟩ := a
        simp only [Nat.zero_mul, Addr.add, if_true] at hspot hlt
        subst hspot
        exact .inr ⟨b, o, rfl, hlt, fun i e he => by
          have := (hp i e he).1
          simp only [Addr.add_lit, Nat.add_zero] at this
          exact this⟩

theorem sum_strings {H : Type} : ∀ (l : List ByteArray) (ds : List (DataW H)), l.length = ds.length → (∀ (i : Nat) (s : ByteArray) (d : DataW H), l[i]? = some s → ds[i]? = some d → s.size + 1 ≤ Rows.uptoBulk d) → (l.map fun s => s.size + 1).sum ≤ Rows.uptoBulkAll ds
  | [], _, _, _ => by simp
  | e :: l, [], h, _ => by simp at h
  | e :: l, d :: ds, h, hp => by
    have h1 := hp 0 e d rfl rfl
    have h2 := sum_strings l ds (by simpa using h) (fun i e d he hd => hp (i + 1) e d (by simpa using he) (by simpa using hd))
    simp only [List.map_cons, List.sum_cons, Rows.uptoBulkAll]
    omega
theorem sum_ge : ∀ (l : List ByteArray), l.length ≤ (l.map fun s => s.size + 1).sum ∧ ∀ s ∈ l, s.size + 1 ≤ (l.map fun s => s.size + 1).sum
  | [] => by simp
  | x :: l => by
    obtain ⟨h1, h2⟩ := sum_ge l
    simp only [List.map_cons, List.sum_cons, List.length_cons]
    refine ⟨by omega, fun s hs => ?_⟩
    rcases List.mem_cons.1 hs with rfl | h
    · omega
    · have := h2 s h; omega
/-- A list of strings that comes in. -/
theorem open_names {H : Type} {enc : TypeId × Value → H} {W : World} {d : DataW H} {pl : List MemPlace} {fuel : Nat} {cs : List Value} (h : DataW.trod enc Try.prog W 0 (fun _ => true) true fuel 22 cs = some (d, pl)) :
    ∃ v l, cs = [v] ∧ Strs W v l ∧ (l.map fun s => s.size + 1).sum + 1 ≤ Rows.uptoBulk d := by
  rcases Go.Deep.open_slice1 Try.underlying22 (by kernel_rfl) h with ⟨rfl, hx⟩ | ⟨a, len, cap, m, n, V, D, Pl, rfl, hb, hl, hm, hmm, hx, hall⟩
  · have := bulk_pos d
    exact ⟨_, [], rfl, Strs.nil _, by simpa using this⟩
  · simp only [Prod.mk.injEq] at hx
    obtain ⟨rfl, _⟩ := hx
    have hbulk := bulk_slice ((List.range len).map D) ((List.range (m - len)).map fun j => D (len + j))
    obtain ⟨l, hlen, hp⟩ := choose_list (p := fun i (s : ByteArray) => W.cell? (a.add i) = some (.string s) ∧ s.size + 1 ≤ Rows.uptoBulk (D i)) len (fun i hi => by
      obtain ⟨h1, h2⟩ := hall i (by rw [hmm]; simp; omega)
      obtain ⟨s, hs, hd, _⟩ := DataW.trod_string Try.underlying9 h2
      simp only [List.cons.injEq, and_true] at hs
      simp only [Prod.mk.injEq] at hd
      rw [hs] at h1
      refine ⟨s, h1, ?_⟩
      rw [hd.1, bulk_string]
      simp)
    have hs := sum_strings l ((List.range len).map D) (by simp [hlen]) (fun i e d he hd => by
      have hi : i < len := by have := (List.getElem?_eq_some_iff.1 he).1; omega
      rw [List.getElem?_map, List.getElem?_range hi] at hd
      simp at hd
      subst hd
      exact (hp i e he).2)
    subst hlen
    refine ⟨_, l, rfl, ⟨some a, cap, rfl, hl, hm, ?_⟩, by omega⟩
    by_cases h0 : l = []
    · exact .inl h0
    · have hpos := List.length_pos_iff.2 h0
      obtain ⟨g0, _⟩ := hp 0 l[0] (List.getElem?_eq_getElem hpos)
      have hspot := addr_spot g0
      have hlt := cell_lt g0
      obtain ⟨b, o, sp⟩ := a
      simp only [Addr.add, if_true] at hspot hlt
      subst hspot
      exact .inr ⟨b, o, rfl, hlt, fun i e he => by
        have := (hp i e he).1
        simp only [Addr.add_lit] at this
        exact this⟩
end Go.Proofs.Ytgimdbflpdmlmaa
