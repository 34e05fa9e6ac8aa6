/- The law ChunkerLocality: the chunks behind a boundary are those of the rest, whatever comes before. No condition. -/
import Derived.Test.YtflkmifcmaeccaaChunkerAppend
import Derived.Deep.AppendLies
namespace Go.Proofs.Ytflkmifcmaeccaa
open Go.RowKit Go.Shelf Go.Proofs.Ytflkmifcmaeccaa.Chunk Go.ChangeShapes Go.WideShapes Go.ChangeAt
open Go.ChangeMaps (open_string shut_string)

theorem chunkS_map (l : List (List UInt8)) : (l.map mkS).map (·.data.toList) = l := by
  rw [List.map_map]
  conv => rhs; rw [← List.map_id l]
  exact List.map_congr_left fun a _ => data_mkS a
theorem chunkS_drop (l : List UInt8) (i : Nat) : chunkS (((chunkS l).drop i).map (·.data.toList)).flatten = (chunkS l).drop i := by
  have e : ((chunkS l).drop i).map (·.data.toList) = (split l).drop i := by rw [chunkS, ← List.map_drop, chunkS_map]
  rw [e, chunkS, split_drop, List.map_drop, chunkS]
theorem chunkS_join (m x : List UInt8) (h : 1 ≤ (chunkS m).length) :
    chunkS ((((chunkS m).take ((chunkS m).length - 1)).map (·.data.toList)).flatten ++ x) = (chunkS m).take ((chunkS m).length - 1) ++ chunkS x := by
  have e : ((chunkS m).take ((chunkS m).length - 1)).map (·.data.toList) = (split m).take ((split m).length - 1) := by
    rw [chunkS, ← List.map_take, chunkS_map, List.length_map]
  rw [e, chunkS, split_closed _ (fun c hc => take_closed (l := m) (i := (split m).length - 1) (by simp [chunkS] at h; omega) hc), List.map_append, List.map_take, chunkS, List.length_map, chunkS]

theorem Strs.drop {w : World} {b o c : Nat} {l : List ByteArray} {n m : Nat} (hn : l.length ≤ c) (hm : c ≤ maxLen) (hb : b < w.heap.size) (h : ∀ i s, l[i]? = some s → w.cell? ⟨b, o + i, none⟩ = some (.string s)) (hl : m = l.length - n) (hnl : n ≤ l.length) :
    Strs w (.slice (some ⟨b, o + n, none⟩) m (c - n)) (l.drop n) := by
  subst hl
  have e : (l.drop n).length = l.length - n := List.length_drop
  refine ⟨some ⟨b, o + n, none⟩, c - n, by rw [e], by omega, by omega, .inr ⟨b, o + n, rfl, hb, fun i s hi => ?_⟩⟩
  rw [List.getElem?_drop] at hi
  rw [Nat.add_assoc]
  exact h _ _ hi

/-- An append of one slice of strings to another that the call owns, as a step of a region that draws its order. -/
theorem step_append_strs {w : World} {ops : Array Oper} {o : Oper} {a : Act} {K : Act → World → Prop} {Q : Exit → Act → World → Prop} {E : Prop} (hgd : o.guard = none) (s x : Operand)
    (ho : o.op = .call { callee := .builtin .append, args := #[s, x], argTypes := #[25, 25] })
    (base N n cap : Nat) (xs : List ByteArray) (hs : a.eval s = .slice (some ⟨N, 0, none⟩) n cap) (hown : w.ownsRow base 9 1 (.slice (some ⟨N, 0, none⟩) n cap) n (xs.map Value.string))
    (b o' m c : Nat) (l : List ByteArray) (hx : a.eval x = .slice (some ⟨b, o', none⟩) m c) (hm : m = l.length) (hl : 1 ≤ l.length) (hcells : ∀ j x, l[j]? = some x → w.cell? ⟨b, o' + j, none⟩ = some (.string x))
    (hb : n + m ≤ 1000000) (hbase : base ≤ w.heap.size)
    (h : ∀ g cap' w', w'.ownsRow base 9 1 (.slice (some ⟨g, 0, none⟩) (n + m) cap') (n + m) ((xs ++ l).map Value.string) → w.grownBy w' (some N) → (g = N ∨ g = w.heap.size) → g < w'.heap.size → K (a.put o.dst (.slice (some ⟨g, 0, none⟩) (n + m) cap')) w') :
    if Region.wanted o (yielded ops a.tmps) = true then Oper.wp Try.prog o a w K Q else E := by
  obtain ⟨i0, hi, hz0, hz1, hz2⟩ := info_parts Try.infoStr
  subst hm
  refine step_append_lies w hgd s x 25 ho base 9 i0 (.string ⟨#[]⟩) 1 16 Try.underlying25 hi hz0 hz1 hz2 rfl (by decide) _ n _ hs hown ⟨b, o', none⟩ l.length c (l.map Value.string) hx (by simp) ?_ ?_ hl (by unfold maxLen; omega) (by omega) hbase _ rfl ?_
  · intro j u hu
    rw [List.getElem?_map] at hu
    obtain ⟨y, hy, rfl⟩ := Option.map_eq_some_iff.1 hu
    have := hcells j y hy
    unfold Addr.add
    split
    · rename_i h0; subst h0; simpa using this
    · simpa using this
  · intro u hu
    obtain ⟨y, _, rfl⟩ := List.mem_map.1 hu
    rfl
  · intro g cap' w' h1 h2 h3 h4
    refine h g cap' w' (by rw [List.map_append]; exact h1) h2 (h3.imp (fun e => ?_) id) h4
    have : N = g := by simpa [Value.ownBlock] using e
    exact this.symm

theorem owns_below {w w' : World} {base : Nat} {e : TypeId} {size : Nat} {v : Value} {n : Nat} {xs : List Value} (h : w.ownsRow base e size v n xs) (hb : Below w.heap.size w w') : w'.ownsRow base e size v n xs := by
  refine ⟨h.1, ?_⟩
  rcases h.2 with h2 | ⟨g, cap, cur, hv, hg, hh, r⟩
  · exact .inl h2
  · exact .inr ⟨g, cap, cur, hv, hg, (hb.block g (Array.getElem?_eq_some_iff.1 hh).1).trans hh, r⟩

theorem kept1 {w w' : World} {base N g n cap : Nat} {e : TypeId} {size : Nat} {xs : List Value} (h : w.ownsRow base e size (.slice (some ⟨g, 0, none⟩) n cap) n xs) (hg : w.grownBy w' (some N)) (hne : g ≠ N) : w'.ownsRow base e size (.slice (some ⟨g, 0, none⟩) n cap) n xs :=
  h.kept hg (.inr (by simpa [Value.ownBlock] using hne))
theorem keptA {w w' : World} {o : Obj} {base N g n cap : Nat} {e : TypeId} {size : Nat} {xs : List Value} (h : w.ownsRow base e size (.slice (some ⟨g, 0, none⟩) n cap) n xs) (hg : (w.alloc o).grownBy w' (some N)) (hne : g ≠ N) : w'.ownsRow base e size (.slice (some ⟨g, 0, none⟩) n cap) n xs :=
  kept1 (h.alloc o) hg hne
theorem ne_alloc {w : World} {g : Nat} (h : g < w.heap.size) (o : Obj) : g ≠ (w.alloc o).heap.size := by simp; omega
theorem ne_case {g N M h : Nat} (ha : g = N ∨ g = M) (h1 : h ≠ N) (h2 : h ≠ M) : h ≠ g := by rcases ha with rfl | rfl <;> assumption
theorem owns_strs {w : World} {base : Nat} {e : TypeId} {N n k cap : Nat} {l : List ByteArray} (h : w.ownsRow base e 1 (.slice (some ⟨N, 0, none⟩) n cap) n (l.map Value.string)) (hk : k = n) : Strs w (.slice (some ⟨N, 0, none⟩) k cap) l := by subst hk; exact Strs.of_owns h
theorem held_size {w W : World} (h : Below w.heap.size w W) : w.heap.size ≤ W.heap.size := h.size
theorem held_alloc {w W : World} (h : Below w.heap.size w W) (o : Obj) : Below w.heap.size w (W.alloc o) := h.alloc h.size o
theorem held_grown {w W W' : World} {N : Nat} (h : Below w.heap.size w W) (hg : W.grownBy W' (some N)) (hN : w.heap.size ≤ N) : Below w.heap.size w W' := h.grown hg h.size (fun k e => by cases e; exact hN)
theorem news_at {w W : World} {l : List ByteArray} {b o : Nat} (h : Keep (∀ j x, l[j]? = some x → w.cell? ⟨b, o + j, none⟩ = some (.string x))) (hb : b < w.heap.size) (hW : Below w.heap.size w W) : ∀ j x, l[j]? = some x → W.cell? ⟨b, o + j, none⟩ = some (.string x) :=
  fun j x hx => (hW.cell (p := ⟨b, o + j, none⟩) hb).trans (h.out j x hx)
theorem held_on {w W W' : World} (hb : Below W.heap.size W W') (h : Below w.heap.size w W) : Below w.heap.size w W' := h.trans (hb.mono h.size)

set_option maxHeartbeats 1000000 in
theorem chunkerLocality_any (s t : ByteArray) (n : Int) (w : World) (hs : s.size ≤ reachBytes) (ht : t.size ≤ reachBytes) (hn0 : 0 ≤ n) (hn1 : n ≤ 65535) :
    Calls Try.prog 6 #[.string s, .string t, .int .u16 n] w fun e w' => e = .returned (.bool true) ∧ Below w.heap.size w w' := by
  have hm := hs
  have hm2 := ht
  unfold reachBytes at hm hm2
  by_cases hbig : 10000 < s.size + t.size
  · have hb : (10000 : Int) < (s.size : Int) + (t.size : Int) := by omega
    go_enter Try.func6, Try.ntmps6
    go_wp2_with (go_at_call 9; refine (alive_any _).mono ?_; rintro e w1 ⟨rfl, hb1⟩)
    go_ret
    exact ⟨rfl, hb1⟩
  · have hb : ¬ (10000 : Int) < (s.size : Int) + (t.size : Int) := by omega
    go_enter Try.func6, Try.ntmps6
    go_wp2_with fail
    refine (alive_any _).mono ?_
    rintro e w1 ⟨rfl, hb1⟩
    have hz1 := hb1.size
    go_wp2_with fail
    refine (split_strs s w1 (by omega)).mono ?_
    rintro e w2 ⟨v, rfl, hS, hb2⟩
    have hz2 := hb2.size
    have HFin : Keep (∀ w', Below w2.heap.size w2 w' → Below w.heap.size w w') := ⟨fun w' h => (hb1.trans (hb2.mono hz1)).trans (h.mono (by omega))⟩
    have hlen := chunkS_length s.data.toList
    rw [show s.data.toList.length = s.size by simp] at hlen
    have HD : Keep (∀ i, chunkS (((chunkS s.data.toList).drop i).map (·.data.toList)).flatten = (chunkS s.data.toList).drop i) := ⟨chunkS_drop _⟩
    have HF : Keep (((chunkS s.data.toList).map (·.data.toList)).flatten = s.data.toList) := ⟨chunkS_flatten _⟩
    clear hb1 hb2
    generalize chunkS s.data.toList = l at *
    by_cases hl : l.length < 2
    · obtain ⟨a, c, rfl, _⟩ := hS
      have hll : (l.length : Int) < 2 := by omega
      go_wp2
      go_ret
      exact ⟨rfl, HFin.out _ (Below.refl _ _)⟩
    · obtain ⟨b, o, c, rfl, h1, h2, h3, h4⟩ := hS.cons_cases (by intro e; rw [e] at hl; simp at hl)
      have hm2' := h2
      unfold maxLen at h2
      have hll : ¬ (l.length : Int) < 2 := by omega
      have H4 := Keep.mk h4
      clear h4 hS
      obtain ⟨i, hi⟩ : ∃ i : Nat, 1 + n % ((l.length : Int) - 1) = (i : Int) := ⟨(1 + n % ((l.length : Int) - 1)).toNat, by have := Int.emod_nonneg n (b := (l.length : Int) - 1) (by omega); omega⟩
      have hi1 : 1 ≤ i ∧ i < l.length := by
        have := Int.emod_nonneg n (b := (l.length : Int) - 1) (by omega)
        have := Int.emod_lt_of_pos n (b := (l.length : Int) - 1) (by omega)
        omega
      have hT := Strs.drop (n := i) (m := l.length - i) h1 hm2' h3 H4.out rfl (by omega)
      have hci : ¬ c = i := by omega
      have hrl : (((l.drop i)).map (·.data.toList)).flatten.length ≤ 10000 := by
        have h1 := congrArg List.length HF.out
        have h2 : ((l.drop i).map (·.data.toList)).flatten.length ≤ (l.map (·.data.toList)).flatten.length := by
          conv => rhs; rw [← List.take_append_drop i l]
          rw [List.map_append, List.flatten_append, List.length_append]; omega
        have h3 : s.data.toList.length = s.size := by simp
        omega
      have hdl : (l.drop i).length = l.length - i := List.length_drop
      obtain ⟨d, hd⟩ : ∃ d, d = l.drop i := ⟨_, rfl⟩
      have HDi := Keep.mk (HD.out i)
      rw [← hd] at hT hrl hdl HDi
      have hTK : Keep (l.drop i = d) := ⟨hd.symm⟩
      clear hd HD HF H4
      have hdl2 : l.length - i = d.length := by omega
      have hdl3 : d.length ≤ 10000 := by omega
      clear hdl
      rw [hdl2] at hT
      go_wp2_with fail
      refine (joinE_any _ d w2 hT (by omega) (by omega)).mono ?_
      rintro e w3 ⟨rfl, hb3⟩
      have hT3 := hT.below hb3 (Nat.le_refl _)
      have hz3 := hb3.size
      have hRsz : (mkS (d.map (·.data.toList)).flatten).size ≤ 10000 := by rw [size_mkS]; exact hrl
      have HR : Keep (chunkS (mkS (d.map (·.data.toList)).flatten).data.toList = d) := ⟨by rw [data_mkS]; exact HDi.out⟩
      have HFin3 : Keep (∀ w', Below w3.heap.size w3 w' → Below w.heap.size w w') := ⟨fun w' h => HFin.out _ (hb3.trans (h.mono hz3))⟩
      have h33 : b < w3.heap.size := by omega
      clear HDi hT hb3 HFin h3
      generalize mkS (d.map (·.data.toList)).flatten = rest at *
      have i1 : (0 : Int) ≤ (i : Int) := Int.natCast_nonneg _
      have i2 : (i : Int) ≤ (l.length : Int) := by omega
      go_wp2_with fail
      go_region_held3 (fun w' => Below w3.heap.size w3 w')
        (first | with_reducible exact (Below.refl w3.heap.size w3).drew | with_reducible exact Below.refl w3.heap.size w3 | exact held_on hb4 (by assumption) | assumption)
        (first
        | (go_at_call 13; refine (split_strs rest _ (by omega)).mono ?_; rintro e w4 ⟨v4, rfl, hS4, hb4⟩; rw [HR.out] at hS4)
        | (go_at_call 12; refine (same_any _ _ d d _ ?_ ?_).mono ?_; (assumption); (refine hT3.below ?_ (Nat.le_refl _); assumption); rintro e w5 ⟨rfl, hb4⟩))
      have hB5 : Below w3.heap.size w3 w5 := by assumption
      have hT5 := hT3.below hB5 (Nat.le_refl _)
      have hz5 := hB5.size
      have HFin5 : Keep (∀ w', Below w5.heap.size w5 w' → Below w.heap.size w w') := ⟨fun w' h => HFin3.out _ (hB5.trans (h.mono hz5))⟩
      have h35 : b < w5.heap.size := by omega
      clear hT3 hB5 HFin3 hb4 hS4 h33
      go_wp2_with fail
      refine (split_strs t w5 (by omega)).mono ?_
      rintro e w6 ⟨v6, rfl, hS6, hb6⟩
      have hz6 := hb6.size
      have hT6 := hT5.below hb6 (Nat.le_refl _)
      have HFin6 : Keep (∀ w', Below w6.heap.size w6 w' → Below w.heap.size w w') := ⟨fun w' h => HFin5.out _ (hb6.trans (h.mono hz6))⟩
      have hlenm := chunkS_length t.data.toList
      rw [show t.data.toList.length = t.size by simp] at hlenm
      have HJ : Keep (1 ≤ (chunkS t.data.toList).length → ∀ x, chunkS ((((chunkS t.data.toList).take ((chunkS t.data.toList).length - 1)).map (·.data.toList)).flatten ++ x) = (chunkS t.data.toList).take ((chunkS t.data.toList).length - 1) ++ chunkS x) := ⟨fun h x => chunkS_join _ _ h⟩
      have HF : Keep (((chunkS t.data.toList).map (·.data.toList)).flatten = t.data.toList) := ⟨chunkS_flatten _⟩
      clear hT5 HFin5 hb6
      generalize chunkS t.data.toList = m at *
      by_cases hml : m.length < 2
      · obtain ⟨a, c6, rfl, _⟩ := hS6
        have hll6 : (m.length : Int) < 2 := by omega
        go_wp2
        go_ret
        exact ⟨rfl, HFin6.out _ (Below.refl _ _)⟩
      · obtain ⟨b6, o6, c6, rfl, h16, h26, h36, h46⟩ := hS6.cons_cases (by intro e; rw [e] at hml; simp at hml)
        have hm26 := h26
        unfold maxLen at h26
        have hll6 : ¬ (m.length : Int) < 2 := by omega
        have hS7 := Strs.take (m := m.length - 1) (n := m.length - 1) h16 hm26 h36 h46 rfl (by omega)
        obtain ⟨a, had⟩ : ∃ a, a = m.take (m.length - 1) := ⟨_, rfl⟩
        have hal : m.length - 1 = a.length := by rw [had, List.length_take]; omega
        have haf : (a.map (·.data.toList)).flatten.length ≤ 10000 := by
          have h1 := congrArg List.length HF.out
          have h2 : ((m.take (m.length - 1)).map (·.data.toList)).flatten.length ≤ (m.map (·.data.toList)).flatten.length := by
            conv => rhs; rw [← List.take_append_drop (m.length - 1) m]
            rw [List.map_append, List.flatten_append, List.length_append]; omega
          have h3 : t.data.toList.length = t.size := by simp
          rw [had]; omega
        have HJa := Keep.mk (HJ.out (by omega))
        rw [← had] at hS7 HJa
        rw [hal] at hS7
        have ha1 : 1 ≤ a.length ∧ a.length ≤ 10000 := by omega
        have hac : a.length ≤ c6 := by omega
        have hat : ∀ j x, a[j]? = some x → w6.cell? ⟨b6, o6 + j, none⟩ = some (.string x) := fun j x hx => h46 j x (by
          rw [had, List.getElem?_take] at hx
          split at hx
          · exact hx
          · cases hx)
        have HAT := Keep.mk hat
        clear HJ HF had h46 hat hS6
        go_wp2_with fail
        refine (joinE_any _ a w6 hS7 (by omega) (by omega)).mono ?_
        rintro e w7 ⟨rfl, hb7⟩
        have hz7 := hb7.size
        have hA7 : ∀ j x, a[j]? = some x → w7.cell? ⟨b6, o6 + j, none⟩ = some (.string x) := fun j x hx => (hb7.cell (p := ⟨b6, o6 + j, none⟩) h36).trans (HAT.out j x hx)
        have hT7 := hT6.below hb7 (Nat.le_refl _)
        have HFin7 : Keep (∀ w', Below w7.heap.size w7 w' → Below w.heap.size w w') := ⟨fun w' h => HFin6.out _ (hb7.trans (h.mono hz7))⟩
        have HC : Keep (chunkS (mkS (a.map (·.data.toList)).flatten ++ rest).data.toList = a ++ d) := ⟨by rw [app_data, data_mkS, HJa.out, HR.out]⟩
        have hsz8 : (mkS (a.map (·.data.toList)).flatten ++ rest).size ≤ 1000000 := by rw [ByteArray.size_append, size_mkS]; omega
        obtain ⟨_, cd, hve, hd1, hd2, hd3⟩ := hT7
        have hd3' : ∀ j x, d[j]? = some x → w7.cell? ⟨b, o + i + j, none⟩ = some (.string x) := by
          rcases hd3 with h | ⟨b', o', e, _, hc⟩
          · rw [h] at hdl2; simp at hdl2; omega
          · simp only [Value.slice.injEq] at hve
            rw [e] at hve
            obtain ⟨h1, _⟩ := hve
            simp only [Option.some.injEq, Addr.mk.injEq] at h1
            intro j x hx
            have := hc j x hx
            rw [← h1.1, ← h1.2.1] at this
            exact this
        have HA7 := Keep.mk hA7
        have HD7 := Keep.mk hd3'
        have hd1' : 1 ≤ d.length := by omega
        have i3 : (0 : Int) ≤ (a.length : Int) := Int.natCast_nonneg _
        have i4 : (a.length : Int) ≤ (c6 : Int) := by omega
        have hb67 : b6 < w7.heap.size := by omega
        have hbb7 : b < w7.heap.size := by omega
        have hlad : (a ++ d).length = a.length + d.length := List.length_append
        clear hA7 hd3' hve hd3 hT6 hb7 HFin6 HAT hS7 HR HJa
        go_wp2_with fail
        have haz : (mkS (a.map (·.data.toList)).flatten).size ≤ 10000 := by rw [size_mkS]; exact haf
        generalize (mkS (a.map (·.data.toList)).flatten) = ahead at *
        have hw1 : IntKind.i64.wrap ((m.length : Int) - 1) = (a.length : Int) := by rw [IntWalk.i64_in _ (by omega)]; omega
        have hcat := fun (wx : World) => run_string_add_sum (P := Try.prog) wx ahead rest (by omega)
        go_region_held3 (fun w' => Below w7.heap.size w7 w')
          (first | with_reducible exact (Below.refl w7.heap.size w7).drew | with_reducible exact Below.refl w7.heap.size w7 | exact held_on hb4 (by assumption) | exact held_alloc (by assumption) _ | assumption | (refine held_grown ?_ hgrow1 ?_; (assumption); (first | omega | (simp; done))) | (refine held_grown ?_ hgrow2 ?_; (assumption); (first | omega | (simp; done))))
          (first
          | (go_at_call 13; refine (split_any (ahead ++ rest) _ hsz8).mono ?_; rintro e w8 ⟨v8, rfl, hown8, hb4⟩; rw [HC.out] at hown8; obtain ⟨g8, c8, rfl, hg8a, hg8b⟩ := hown8.form (by omega); have hgz8 : w7.heap.size ≤ w8.heap.size := (by have := hb4.size; simp at this; omega); have hz8 := hg8a; (try simp at hz8); (try have hown1 := owns_below hown1 hb4); (try have hown2 := owns_below hown2 hb4); (try have hne81 : g8 ≠ g1 := Nat.ne_of_gt (Nat.lt_of_lt_of_le hlt1 hg8a)))
          | (refine step_append_strs (o := ⟨some 64, _, _, _, _, _⟩) rfl (.tmp 58) (.tmp 63) rfl w7.heap.size _ 0 0 [] rfl ?_ b6 o6 a.length c6 a rfl rfl ha1.1 ?_ ?_ ?_ ?_; (first | exact World.ownsRow_made w7.drew #[] 0 (Nat.le_refl _) (by decide) rfl | exact World.ownsRow_made w8 #[] 0 hgz8 (by decide) rfl | exact owns_below (World.ownsRow_made w7.drew #[] 0 (Nat.le_refl _) (by decide) rfl) hb4); (refine news_at HA7 hb67 ?_; assumption); (omega); (first | (refine held_size ?_; assumption) | omega | (simp; done) | (simp; omega)); intro g1 cap1 w9 hown1 hgrow1 hat1 hlt1; simp only [List.nil_append] at hown1; have hgz1 := hgrow1.size; have hg1a : w7.heap.size ≤ g1 := (hown1.lt g1 rfl).1; (first | have hown8 := keptA hown8 hgrow1 (Nat.ne_of_lt hg8b) | have hown8 := kept1 hown8 hgrow1 (Nat.ne_of_gt hz8) | skip); (first | have hne81 := ne_case hat1 (Nat.ne_of_lt hg8b) (ne_alloc hg8b _) | have hne81 := ne_case hat1 (Nat.ne_of_gt hz8) (Nat.ne_of_lt hg8b) | skip))
          | (refine step_append_strs (o := ⟨some 68, _, _, _, _, _⟩) rfl (.tmp 64) (.tmp 67) rfl w7.heap.size _ _ _ a rfl hown1 _ _ _ _ d rfl rfl hd1' ?_ ?_ ?_ ?_; (refine news_at HD7 hbb7 ?_; assumption); (omega); (first | (refine held_size ?_; assumption) | omega | (simp; done) | (simp; omega)); intro g2 cap2 w10 hown2 hgrow2 hat2 hlt2; have hgz2 := hgrow2.size; (first | have hown8 := kept1 hown8 hgrow2 hne81 | skip))
          | (go_at_call 12; refine (same_any _ _ (a ++ d) (a ++ d) _ ?_ ?_).mono ?_; (refine owns_strs hown8 ?_; first | rfl | omega); (refine owns_strs hown2 ?_; first | rfl | omega); rintro e w11 ⟨rfl, hb4⟩))
        all_goals
          go_wp2
          go_ret
          refine ⟨rfl, HFin7.out _ ?_⟩
          assumption

theorem ChunkerLocality_walk : LawWalk 6 Try.f6 := by
  intro H enc W base args ds ps hval hA hsz
  rw [Try.params6] at hA hval hsz
  obtain ⟨v0, vs0, d0, ds0, p0, q0, hargs, rfl, rfl, h0, r0⟩ := trodAll_cons hA
  obtain ⟨v1, vs1, d1, ds1, p1, q1, rfl, rfl, rfl, h1, r1⟩ := trodAll_cons r0
  obtain ⟨v2, vs2, d2, ds2, p2, q2, rfl, rfl, rfl, h2, r2⟩ := trodAll_cons r1
  obtain ⟨rfl, rfl, rfl⟩ := trodAll_nil r2
  obtain rfl : args = #[v0, v1, v2] := by cases args; simp_all
  obtain ⟨s, rfl, rfl, rfl, hs⟩ := open_string Try.underlying9 (hval 0 9 v0 rfl rfl) h0
  obtain ⟨t, rfl, rfl, rfl, ht⟩ := open_string Try.underlying9 (hval 1 9 v1 rfl rfl) h1
  obtain ⟨n, rfl, rfl, rfl, wn⟩ := open_int Try.underlying33 (hval 2 33 v2 rfl rfl) h2
  have hn : 0 ≤ n ∧ n ≤ 65535 := by simpa [Lit.wf, IntKind.min, IntKind.max, IntKind.signed, IntKind.bits] using wn
  have hs' := sized_string hsz (j := 0) rfl rfl
  have ht' := sized_string hsz (j := 1) rfl rfl
  exact chunkerLocality_any s t n W (by simpa using hs') (by simpa using ht') hn.1 hn.2
end Go.Proofs.Ytflkmifcmaeccaa
namespace Go.Proofs.Ytflkmifcmaeccaa
open Go.ChangeShapes Go.WideShapes Go.ChangeAt Go.RowKit
set_option maxRecDepth 100000 in
theorem ChunkerLocality_lifted (os : Os) (started : os.Started) (H : Type) (enc : TypeId × Value → H) :
    ReturnsInHanded {} Try.checked os 6 .any (Rows.chunkerLocalitySpec.pre6 enc Try.prog Try.f6 Rows.chunkerLocalityRow.domain false) (Rows.chunkerLocalitySpec.post enc Try.prog Try.f6 false true false false) := by
  refine returnsInHanded_of_change_sized (C := Try.checked) own started (by kernel_rfl) Try.func6
    (ChangeSpec.witness6 (enc := enc) (C := Try.checked) false ⟨#[], #[.string ⟨#[]⟩, .string ⟨#[]⟩, .int .u16 0], []⟩ 8 (by kernel_rfl) (by kernel_rfl) (by kernel_rfl) (by kernel_rfl)) ?_
  exact law_contract (by kernel_rfl) (by kernel_rfl) ⟨rfl, fun H ds h => by rw [Try.params6] at h; match ds, h with | [d0, d1, d2], _ => rfl⟩ ChunkerLocality_walk
theorem ChunkerLocality_over : Rows.chunkerLocalityRow.holds Try.pinned (OpenSpec.ofChange Rows.chunkerLocalitySpec) :=
  OpenClaim.holds_of_wide 6 Try.f6 rfl rfl rfl rfl rfl rfl rfl ⟨rfl, rfl, rfl, rfl, rfl⟩ rfl rfl rfl rfl rfl (by kernel_rfl) Try.func6 (by kernel_rfl)
    (of_decide_eq_true (by kernel_rfl)) (by unfold Func.isWrapper; first | (rw [if_pos (by decide +kernel)]; kernel_rfl) | (rw [if_neg (by decide +kernel)]; exact ⟨rfl, rfl⟩))
    (fun os started H enc _ => ChunkerLocality_lifted os started H enc)
theorem ChunkerLocality_proved : Rows.ChunkerLocalitySaid := ChunkerLocality_over
end Go.Proofs.Ytflkmifcmaeccaa
