/- The checker's call. Condition: bounds on the needs. -/
import Derived.Test.YtgimdbflpdmlmaaCkSmall
import Derived.Test.YtgimdbflpdmlmaaSlc
import Derived.BigRegion
import Derived.Deep.DeepCutAuto
import Derived.Deep.CutBlock
import Derived.Deep.CutRange
namespace Go.Proofs.Ytgimdbflpdmlmaa
set_option maxRecDepth 100000
open Go.RowKit Go.Shelf Go.Proofs.Ytgimdbflpdmlmaa.Ck

theorem needFrom_snoc : ∀ (l : List Nat) (j m n : Nat), needFrom j m (l ++ [n]) = max (needFrom j m l) (j + l.length + n)
  | [], j, m, n => by simp [needFrom]
  | x :: l, j, m, n => by
    simp only [List.cons_append, needFrom, List.length_cons]
    rw [needFrom_snoc l (j + 1)]
    congr 1
    omega
theorem needFrom_le {K : Nat} : ∀ (l : List Nat) (j m : Nat), m ≤ K → (∀ n ∈ l, n + j + l.length ≤ K) → needFrom j m l ≤ K
  | [], j, m, h, _ => h
  | x :: l, j, m, h, hl => by
    simp only [needFrom]
    refine needFrom_le l (j + 1) _ ?_ (fun n hn => ?_)
    · have := hl x (List.mem_cons_self ..)
      simp only [List.length_cons] at this
      omega
    · have := hl n (List.mem_cons_of_mem _ hn)
      simp only [List.length_cons] at this
      omega
theorem imax (a b : Nat) : (if (a : Int) < (b : Int) then (b : Int) else (a : Int)) = ((max a b : Nat) : Int) := by
  split <;> omega
/-- v is a slice of these numbers. -/
def NumsAt (w : World) (v : Value) (l : List Nat) : Prop := Slc w 1 v l.length (l.map fun n : Nat => Value.int .i64 (n : Int))
/-- What a check leaves. -/
def After (w : World) (B G V A F O : Nat) (c : Cx) (r : Res (Nat × Nat)) (e : Ending) (w' : World) : Prop :=
  w.grownBy w' (some B) ∧ match r with | .bad v => Bad v e | .ok q => e = .returned (.int .i64 (q.1 : Int)) ∧ CkIn w' B G V A F O c q.2
theorem After.bad {w w' : World} {B G V A F O : Nat} {c : Cx} {r : Res (Nat × Nat)} {v : Viol} (hg : w.grownBy w' (some B)) (hr : r = .bad v) : After w B G V A F O c r (.panicked [{ v := violV v, recovered := false }]) w' := by
  subst hr; exact ⟨hg, rfl⟩
theorem After.ok {w w' : World} {B G V A F O : Nat} {c : Cx} {r : Res (Nat × Nat)} {n d : Nat} (hg : w.grownBy w' (some B)) (hr : r = .ok (n, d)) (hc : CkIn w' B G V A F O c d) : After w B G V A F O c r (.returned (.int .i64 (n : Int))) w' := by
  subst hr; exact ⟨hg, rfl, hc⟩
structure Small (c : Cx) (K : Nat) : Prop where
  funcs : ∀ x f, lookF x c.funcs = some f → f.params + 1 ≤ K ∧ f.need ≤ K ∧ f.depth + 1 ≤ K
section
variable {w w' : World} {B G V A F O : Nat} {c : Cx} {d : Nat}
theorem SetL.setCell {M : Nat} {l : List ByteArray} (h : SetL w M l) (p : Addr) (u : Value) : SetL (w.setCell p u) M l := by obtain ⟨m, h1, h2⟩ := h; exact ⟨m, h1.setCell p u, h2⟩
theorem SumL.setCell {M : Nat} {l : List (ByteArray × Sm)} (h : SumL w M l) (p : Addr) (u : Value) : SumL (w.setCell p u) M l := by obtain ⟨m, h1, h2⟩ := h; exact ⟨m, h1.setCell p u, h2⟩
theorem grown_setCell (w : World) (p : Addr) (u : Value) : w.grownBy (w.setCell p u) (some p.block) :=
  ⟨rfl, rfl, rfl, by simp [World.setCell], fun k _ hk => Below.heap_setCell _ _ _ _ (fun e => hk (by rw [e]))⟩
theorem CkIn.depth (h : CkIn w B G V A F O c d) (d' : Nat) : CkIn (w.setCell ⟨B, 6, none⟩ (.int .i64 (d' : Int))) B G V A F O c d' := by
  refine ⟨?_, h.g.setCell .., h.v.setCell .., h.a.setCell .., h.f.setCell .., h.o.setCell ..⟩
  rw [heap_setCell_same w B 6 _ _ _ h.box]
  rfl
end
theorem grown_low {w w' : World} {B : Nat} (h : Below w.heap.size w w') : w.grownBy w' (some B) := ⟨h.os, h.tape, h.output, h.size, fun k hk _ => h.block k hk⟩
theorem grown_trans {a b c : World} {B : Nat} (h : a.grownBy b (some B)) (h' : b.grownBy c (some B)) : a.grownBy c (some B) :=
  ⟨h'.os.trans h.os, h'.tape.trans h.tape, h'.output.trans h.output, Nat.le_trans h.size h'.size, fun k hk hne => (h'.block k (Nat.lt_of_lt_of_le hk h.size) hne).trans (h.block k hk hne)⟩

set_option maxHeartbeats 8000000 in
theorem call_any {w : World} {B G V A F O : Nat} {c : Cx} {d : Nat} (h : CkIn w B G V A F O c d) (name : ByteArray) {nv : Value} {ns : List Nat} {K : Nat} (hn : NumsAt w nv ns) (hnb : nv.ownBlock ≠ some B) (hK : K ≤ 1000000000) (hs : Small c K) (hd : d ≤ K) (hns : ∀ n ∈ ns, n + ns.length ≤ K) (hl : ns.length ≤ K) :
    Calls Try.prog 89 #[.pointer (some ⟨B, 0, none⟩), .string name, nv] w fun e w' => After w B G V A F O c (callC c name ns d) e w' := by
  obtain ⟨na, ncap, rfl, hn1, hn2, _, hn3⟩ := hn
  have HNB : Keep (∀ b o, na = some ⟨b, o, none⟩ → b ≠ B) := ⟨fun b o e h => hnb (by rw [e, h]; rfl)⟩
  clear hnb
  have hcell : ∀ (i n : Nat), ns[i]? = some n → ∃ b o, na = some ⟨b, o, none⟩ ∧ b < w.heap.size ∧ w.cell? ⟨b, o + i, none⟩ = some (.int .i64 (n : Int)) := fun i n hi => by
    rcases hn3 with h0 | ⟨b, o, rfl, hb, hc⟩
    · have := (List.getElem?_eq_some_iff.1 hi).1; simp at h0; subst h0; simp at this
    · exact ⟨b, o, rfl, hb, hc i _ (by simp [hi])⟩
  have HN := Keep.mk hcell
  have HC := Keep.mk h
  have HF := Keep.mk (h.f.look name)
  unfold maxLen at hn2
  clear hn3 hcell h
  go_enter Try.func89, Try.ntmps89
  by_cases h1 : name = sIn
  · have e1 : (name.toList == [105, 110]) = true := by rw [h1]; decide +kernel
    by_cases h2 : ns.length = 0
    · have e2 : ((ns.length : Int) == 0) = true := by rw [h2]; rfl
      have HR : Keep (callC c name ns d = .ok (1, d)) := ⟨by unfold callC; rw [if_pos h1, if_pos h2]⟩
      clear h1 h2
      go_wp2_with fail
      refine (require_ok _ _ _).mono ?_
      rintro _ w1 ⟨⟨v1, rfl⟩, rfl⟩
      go_wp2_with fail
      go_ret
      exact After.ok (grown_low (Below.refl _ _)) HR.out HC.out
    · have e2 : ((ns.length : Int) == 0) = false := by simp; intro h; subst h; simp at h2
      have HR : Keep (callC c name ns d = .bad (name, 1)) := ⟨by unfold callC; rw [if_pos h1, if_neg h2]⟩
      clear h1 h2
      go_wp2_with fail
      refine (require_bad _ _ _).mono ?_
      rintro _ w1 ⟨rfl, rfl⟩
      exact ⟨rfl, After.bad (grown_low (Below.refl _ _)) HR.out⟩
  · have e1 : (name.toList == [105, 110]) = false := by rw [show ([105, 110] : List UInt8) = sIn.toList by decide +kernel, toList_beq]; exact decide_eq_false h1
    by_cases h2 : name = sOut
    · have e2 : (name.toList == [111, 117, 116]) = true := by rw [h2]; decide +kernel
      by_cases h3 : ns.length = 1
      · have e3 : ((ns.length : Int) == 1) = true := by rw [h3]; rfl
        obtain ⟨n, rfl⟩ : ∃ n, ns = [n] := List.length_eq_one_iff.1 h3
        have HR : Keep (callC c name [n] d = .ok (n, d)) := ⟨by unfold callC; rw [if_neg h1, if_pos h2]; rfl⟩
        obtain ⟨b, o, rfl, hb, c0⟩ := HN.out 0 n rfl
        rw [Nat.add_zero] at c0
        clear h1 h2 h3
        go_wp2_with fail
        refine (require_ok _ _ _).mono ?_
        rintro _ w1 ⟨⟨v1, rfl⟩, rfl⟩
        go_wp2_with fail
        go_ret
        exact After.ok (grown_low (Below.refl _ _)) HR.out HC.out
      · have e3 : ((ns.length : Int) == 1) = false := by simp; omega
        have HR : Keep (callC c name ns d = .bad (name, 1)) := ⟨by unfold callC; rw [if_neg h1, if_pos h2, if_neg h3]⟩
        clear h1 h2 h3
        go_wp2_with fail
        refine (require_bad _ _ _).mono ?_
        rintro _ w1 ⟨rfl, rfl⟩
        exact ⟨rfl, After.bad (grown_low (Below.refl _ _)) HR.out⟩
    · have e2 : (name.toList == [111, 117, 116]) = false := by rw [show ([111, 117, 116] : List UInt8) = sOut.toList by decide +kernel, toList_beq]; exact decide_eq_false h2
      have HR0 : Keep (callC c name ns d = match lookF name c.funcs with
        | none => if name ∈ c.vars ∨ name ∈ c.arrays ∨ name ∈ c.own then .bad (name, 10) else .bad (name, 7)
        | some f => if ns.length = f.params then .ok (needFrom 0 (max (f.params + 1) f.need) ns, max d (f.depth + 1)) else .bad (name, 1)) := ⟨by unfold callC; rw [if_neg h1, if_neg h2]; cases lookF name c.funcs <;> rfl⟩
      clear h1 h2
      have c1 := HC.out.cell 1
      have c2 := HC.out.cell 2
      have c3 := HC.out.cell 3
      have c5 := HC.out.cell 5
      have hBl := HC.out.lt
      simp only [List.getElem?_cons_zero, List.getElem?_cons_succ] at c1 c2 c3 c5
      have hlk := HF.out
      have hv := HC.out.v.look name
      have ha := HC.out.a.look name
      have ho := HC.out.o.look name
      cases hf : lookF name c.funcs with
      | none =>
        rw [hf] at hlk HR0
        simp only at HR0
        simp only [Option.map_none, Option.getD_none, Option.isSome_none] at hlk
        clear hf
        go_upto_region 9 with (fail)
        have hb1 : Below w.heap.size w (w.alloc (.cells #[.int .i64 0, .int .i64 0, .int .i64 0] 110)) := (Below.refl _ _).alloc (Nat.le_refl _) _
        have HC1 := Keep.mk (HC.out.below hb1)
        have HG1 := Keep.mk (grown_low (B := B) hb1)
        clear hlk c1 c2 c3 c5 hBl hv ha ho hb1 HC HF
        generalize (w.alloc (.cells #[.int .i64 0, .int .i64 0, .int .i64 0] 110)) = wa at *
        have hv := HC1.out.v.look name
        have ha := HC1.out.a.look name
        have ho := HC1.out.o.look name
        have c1 := HC1.out.cell 1
        have c2 := HC1.out.cell 2
        have c5 := HC1.out.cell 5
        have hBl := HC1.out.lt
        simp only [List.getElem?_cons_zero, List.getElem?_cons_succ] at c1 c2 c5
        by_cases g1 : name ∈ c.vars
        · rw [decide_eq_true g1] at hv
          rw [if_pos (Or.inl g1 : name ∈ c.vars ∨ name ∈ c.arrays ∨ name ∈ c.own)] at HR0
          clear g1
          go_wp2_with fail
          refine (require_bad _ _ _).mono ?_
          rintro _ w1 ⟨rfl, rfl⟩
          exact ⟨rfl, After.bad HG1.out HR0.out⟩
        · rw [decide_eq_false g1] at hv
          by_cases g2 : name ∈ c.arrays
          · rw [decide_eq_true g2] at ha
            rw [if_pos (Or.inr (Or.inl g2) : name ∈ c.vars ∨ name ∈ c.arrays ∨ name ∈ c.own)] at HR0
            clear g1 g2
            go_wp2_with fail
            refine (require_bad _ _ _).mono ?_
            rintro _ w1 ⟨rfl, rfl⟩
            exact ⟨rfl, After.bad HG1.out HR0.out⟩
          · rw [decide_eq_false g2] at ha
            by_cases g3 : name ∈ c.own
            · rw [decide_eq_true g3] at ho
              rw [if_pos (Or.inr (Or.inr g3) : name ∈ c.vars ∨ name ∈ c.arrays ∨ name ∈ c.own)] at HR0
              clear g1 g2 g3
              go_wp2_with fail
              refine (require_bad _ _ _).mono ?_
              rintro _ w1 ⟨rfl, rfl⟩
              exact ⟨rfl, After.bad HG1.out HR0.out⟩
            · rw [decide_eq_false g3] at ho
              rw [if_neg (fun h => h.elim g1 (fun h => h.elim g2 g3) : ¬ (name ∈ c.vars ∨ name ∈ c.arrays ∨ name ∈ c.own))] at HR0
              clear g1 g2 g3
              go_wp2_with fail
              refine (require_ok _ _ _).mono ?_
              rintro _ w1 ⟨⟨v1, rfl⟩, rfl⟩
              go_wp2_with fail
              refine (require_bad _ _ _).mono ?_
              rintro _ w1 ⟨rfl, rfl⟩
              exact ⟨rfl, After.bad HG1.out HR0.out⟩
      | some f =>
        obtain ⟨k1, k2, k3⟩ := hs.funcs name f hf
        rw [hf] at hlk HR0
        simp only at HR0
        simp only [Option.map_some, Option.getD_some, Option.isSome_some, smA] at hlk
        clear hf
        go_upto_region 9 with (fail)
        have hb1 : Below w.heap.size w (w.alloc (.cells #[.int .i64 (f.params : Int), .int .i64 (f.need : Int), .int .i64 (f.depth : Int)] 110)) := (Below.refl _ _).alloc (Nat.le_refl _) _
        have HC1 := Keep.mk (HC.out.below hb1)
        have HG1 := Keep.mk (grown_low (B := B) hb1)
        have hX : (w.alloc (.cells #[.int .i64 (f.params : Int), .int .i64 (f.need : Int), .int .i64 (f.depth : Int)] 110)).heap[w.heap.size]? = some (.cells #[.int .i64 (f.params : Int), .int .i64 (f.need : Int), .int .i64 (f.depth : Int)] 110 (0, 0)) := heap_alloc_new w _
        have HX := Keep.mk hX
        have hBX : B < w.heap.size := HC.out.lt
        have HN1 : Keep (∀ (i n : Nat), ns[i]? = some n → ∃ b o, na = some ⟨b, o, none⟩ ∧ b < w.heap.size ∧ (w.alloc (.cells #[.int .i64 (f.params : Int), .int .i64 (f.need : Int), .int .i64 (f.depth : Int)] 110)).cell? ⟨b, o + i, none⟩ = some (.int .i64 (n : Int))) := ⟨fun i n hi => by
          obtain ⟨b, o, e, hb, hc⟩ := HN.out i n hi
          exact ⟨b, o, e, hb, (hb1.cell (p := ⟨b, o + i, none⟩) hb).trans hc⟩⟩
        clear hlk c1 c2 c3 c5 hBl hv ha ho hb1 HC HF HN hX
        generalize (w.alloc (.cells #[.int .i64 (f.params : Int), .int .i64 (f.need : Int), .int .i64 (f.depth : Int)] 110)) = wa at *
        obtain ⟨X, hX⟩ : ∃ X, X = w.heap.size := ⟨_, rfl⟩
        rw [← hX] at HX hBX ⊢
        have HXE := Keep.mk hX
        clear hX
        have hXl : X < wa.heap.size := (Array.getElem?_eq_some_iff.1 HX.out).1
        have x0 : wa.cell? ⟨X, 0, none⟩ = some (.int .i64 (f.params : Int)) := by simp [World.cell?, HX.out]
        have x1 : wa.cell? ⟨X, 1, none⟩ = some (.int .i64 (f.need : Int)) := by simp [World.cell?, HX.out]
        have x2 : wa.cell? ⟨X, 2, none⟩ = some (.int .i64 (f.depth : Int)) := by simp [World.cell?, HX.out]
        have c6 := HC1.out.cell 6
        have cf6 := HC1.out.frozen 6
        have hBl := HC1.out.lt
        simp only [List.getElem?_cons_zero, List.getElem?_cons_succ] at c6
        go_wp2_with fail
        refine (require_ok _ _ _).mono ?_
        rintro _ w1 ⟨⟨v1, rfl⟩, rfl⟩
        go_wp2_with fail
        refine (require_ok _ _ _).mono ?_
        rintro _ w1 ⟨⟨v1, rfl⟩, rfl⟩
        by_cases hp : ns.length = f.params
        · have hpe : ((ns.length : Int) == (f.params : Int)) = true := by rw [hp]; simp
          rw [if_pos hp] at HR0
          have HPE := Keep.mk hp
          clear hp
          go_wp2_with fail
          refine (require_ok _ _ _).mono ?_
          rintro _ w1 ⟨⟨v1, rfl⟩, rfl⟩
          go_upto_region 12 with (fail)
          go_region
          have hmx : (if (d : Int) < (f.depth : Int) + 1 then (f.depth : Int) + 1 else (d : Int)) = ((max d (f.depth + 1) : Nat) : Int) := by split <;> omega
          rw [hmx]
          have hb2 : Below (wa.setCell ⟨B, 6, none⟩ (.int .i64 ((max d (f.depth + 1) : Nat) : Int))).heap.size (wa.setCell ⟨B, 6, none⟩ (.int .i64 ((max d (f.depth + 1) : Nat) : Int))) (wa.setCell ⟨B, 6, none⟩ (.int .i64 ((max d (f.depth + 1) : Nat) : Int))).drew := (Below.refl _ _).drew
          have HC2 := Keep.mk ((HC1.out.depth (max d (f.depth + 1))).below hb2)
          have HG2 := Keep.mk (grown_trans HG1.out (grown_trans (grown_setCell wa ⟨B, 6, none⟩ (.int .i64 ((max d (f.depth + 1) : Nat) : Int))) (grown_low hb2)))
          have HX2 : Keep ((wa.setCell ⟨B, 6, none⟩ (.int .i64 ((max d (f.depth + 1) : Nat) : Int))).drew.heap[X]? = some (.cells #[.int .i64 (f.params : Int), .int .i64 (f.need : Int), .int .i64 (f.depth : Int)] 110 (0, 0))) := ⟨(Below.heap_setCell wa ⟨B, 6, none⟩ _ X (by show X ≠ B; omega)).trans HX.out⟩
          have HN2 : Keep (∀ (i n : Nat), ns[i]? = some n → ∃ b o, na = some ⟨b, o, none⟩ ∧ b < (wa.setCell ⟨B, 6, none⟩ (.int .i64 ((max d (f.depth + 1) : Nat) : Int))).drew.heap.size ∧ (wa.setCell ⟨B, 6, none⟩ (.int .i64 ((max d (f.depth + 1) : Nat) : Int))).drew.cell? ⟨b, o + i, none⟩ = some (.int .i64 (n : Int))) := ⟨fun i n hi => by
            obtain ⟨b, o, e, hb, hc⟩ := HN1.out i n hi
            refine ⟨b, o, e, ?_, (World.cell?_of_block (a := ⟨b, o + i, none⟩) (Below.heap_setCell wa ⟨B, 6, none⟩ _ b (HNB.out b o e))).trans hc⟩
            have h5 : wa.heap.size = (wa.setCell ⟨B, 6, none⟩ (.int .i64 ((max d (f.depth + 1) : Nat) : Int))).drew.heap.size := by show _ = (wa.setCell _ _).heap.size; simp [World.setCell]
            rw [← h5, ← HXE.out] at *
            omega⟩
          have HD2 : Keep (max d (f.depth + 1) ≤ K) := ⟨by omega⟩
          clear x0 x1 x2 c6 cf6 hBl hb2 HC1 HG1 HX HN1 hXl hmx hpe
          generalize (wa.setCell ⟨B, 6, none⟩ (.int .i64 ((max d (f.depth + 1) : Nat) : Int))).drew = w2 at *
          have hXl : X < w2.heap.size := (Array.getElem?_eq_some_iff.1 HX2.out).1
          have x0 : w2.cell? ⟨X, 0, none⟩ = some (.int .i64 (f.params : Int)) := by simp [World.cell?, HX2.out]
          have x1 : w2.cell? ⟨X, 1, none⟩ = some (.int .i64 (f.need : Int)) := by simp [World.cell?, HX2.out]
          have hmy : (if (f.params : Int) + 1 < (f.need : Int) then (f.need : Int) else (f.params : Int) + 1) = ((max (f.params + 1) f.need : Nat) : Int) := by split <;> omega
          have hm0 : max (f.params + 1) f.need ≤ K := by omega
          go_wp2_with fail
          clear hmy
          generalize max (f.params + 1) f.need = m at *
          generalize max d (f.depth + 1) = dd at *
          have HNF := Keep.mk (needFrom_le (K := K) ns 0 m hm0 (fun n hn => by have := hns n hn; omega))
          go_loop [98, 9] (fun i s9 => ∃ k : Nat, k ≤ ns.length ∧ i = .int .i64 k ∧ s9 = .int .i64 (needFrom 0 m (ns.take k) : Nat)) (fun i _ => ns.length - (intOf i).toNat)
          case atStart => exact ⟨0, Nat.zero_le _, rfl, rfl⟩
          case round =>
            obtain ⟨k, hk, rfl, rfl⟩ := hrel
            by_cases hlt : k < ns.length
            · have k0 : (0 : Int) ≤ k := by omega
              have k1 : (k : Int) < ns.length := by omega
              obtain ⟨n, hnk⟩ : ∃ n, ns[k]? = some n := ⟨_, List.getElem?_eq_getElem hlt⟩
              obtain ⟨b, o, rfl, hb, c0⟩ := HN2.out k n hnk
              have hnn := hns n (List.mem_of_getElem? hnk)
              have hst : needFrom 0 m (ns.take (k + 1)) = max (needFrom 0 m (ns.take k)) (k + n) := by
                rw [List.take_add_one, hnk]
                show needFrom 0 m (ns.take k ++ [n]) = _
                rw [needFrom_snoc, List.length_take, Nat.zero_add, Nat.min_eq_left hk]
              have hle : needFrom 0 m (ns.take k) ≤ K := needFrom_le _ 0 m hm0 (fun x hx => by have := hns x (List.mem_of_mem_take hx); rw [List.length_take]; omega)
              generalize needFrom 0 m (ns.take k) = q at *
              have hmz : (if (q : Int) < (k : Int) + (n : Int) then (k : Int) + (n : Int) else (q : Int)) = ((max q (k + n) : Nat) : Int) := by split <;> omega
              go_wp2_with fail
              go_round
              case rel => exact ⟨k + 1, by omega, by go_num, by rw [hst]⟩
              case measure => simp [intOf]; omega
            · have hkn : k = ns.length := by omega
              subst hkn
              rw [List.take_length]
              go_wp2_with fail
              go_ret
              exact After.ok HG2.out HR0.out HC2.out
        · have hpe : ((ns.length : Int) == (f.params : Int)) = false := by simp; omega
          rw [if_neg hp] at HR0
          clear hp
          go_wp2_with fail
          refine (require_bad _ _ _).mono ?_
          rintro _ w1 ⟨rfl, rfl⟩
          exact ⟨rfl, After.bad HG1.out HR0.out⟩
end Go.Proofs.Ytgimdbflpdmlmaa
