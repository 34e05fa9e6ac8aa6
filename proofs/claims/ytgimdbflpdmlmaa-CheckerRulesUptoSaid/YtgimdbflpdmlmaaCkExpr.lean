/- The checker's expr. Condition: bounds. -/
import Derived.Test.YtgimdbflpdmlmaaCkBound
import Derived.StillTailTactics
import Derived.Deep.DeepMust
namespace Go.Proofs.Ytgimdbflpdmlmaa
set_option maxRecDepth 100000
open Go.RowKit Go.Shelf Go.Proofs.Ytgimdbflpdmlmaa.Ck

theorem ExsAt.get {w : World} {n : Nat} {v : Value} {l : List Ex} (h : ExsAt w n v l) {i : Nat} {e : Ex} (hi : l[i]? = some e) : ∃ m b o cap u, n = m + 1 ∧ v = .slice (some ⟨b, o, none⟩) l.length cap ∧ b < w.heap.size ∧
    w.cell? ⟨b, o + i * 4, none⟩ = some (.string e.op) ∧ w.cell? ⟨b, o + i * 4 + 1, none⟩ = some (.int .u32 e.num) ∧ w.cell? ⟨b, o + i * 4 + 2, none⟩ = some (.string e.name) ∧ w.cell? ⟨b, o + i * 4 + 3, none⟩ = some u ∧ ExsAt w m u e.args := by
  have hlt := (List.getElem?_eq_some_iff.1 hi).1
  cases n with
  | zero => obtain ⟨rfl, _⟩ := h; simp at hlt
  | succ n =>
    obtain ⟨a, cap, rfl, h1, h2, h3⟩ := h
    rcases h3 with rfl | ⟨b, o, rfl, hb, hc⟩
    · simp at hlt
    · obtain ⟨c0, c1, c2, u, c3, hu⟩ := hc i e hi
      exact ⟨n, b, o, cap, u, rfl, rfl, hb, c0, c1, c2, c3, hu⟩
theorem Slc.made {w : World} {size n : Nat} {t : TypeId} (cs : List Value) (hn : n ≤ maxLen) (hl : cs.length = n * size) : Slc (w.alloc (.cells cs.toArray t)) size (.slice (some ⟨w.heap.size, 0, none⟩) n n) n cs := by
  refine ⟨_, _, rfl, Nat.le_refl _, hn, hl, .inr ⟨w.heap.size, 0, rfl, by simp, fun j u hu => ?_⟩⟩
  have e : (w.alloc (.cells cs.toArray t)).heap[w.heap.size]? = some (.cells cs.toArray t) := heap_alloc_new w _
  rw [Nat.zero_add]
  simp only [World.cell?, e]
  simpa using hu
theorem ownRow_kept {w w' : World} {base : Nat} {e : TypeId} {size n : Nat} {v : Value} {xs : List Value} {row : Option Nat} (h : w.ownsRow base e size v n xs) (hg : w.grownBy w' row) (hne : v.ownBlock = none ∨ v.ownBlock ≠ row) : w'.ownsRow base e size v n xs := by
  obtain ⟨h1, h2⟩ := h
  refine ⟨h1, h2.imp id ?_⟩
  rintro ⟨g, cap, cur, rfl, hb, hh, r⟩
  refine ⟨g, cap, cur, rfl, hb, (hg.block g (Array.getElem?_eq_some_iff.1 hh).1 (fun e => ?_)).trans hh, r⟩
  rcases hne with h | h
  · simp [Value.ownBlock] at h
  · exact h e
theorem ownsRow_ne {w : World} {base : Nat} {e t : TypeId} {size n y : Nat} {v : Value} {xs : List Value} {cs : Array Value} {m : Nat × Nat} (h : w.ownsRow base e size v n xs) (hy : w.heap[y]? = some (.cells cs t m)) (ht : t ≠ e) : v.ownBlock ≠ some y := by
  intro hv
  rcases h.2 with ⟨rfl, _⟩ | ⟨g, cap, cur, rfl, _, hh, _⟩
  · cases hv
  · simp only [Value.ownBlock, Option.some.injEq] at hv
    subst hv
    rw [hh] at hy
    cases hy
    exact ht rfl
theorem grown_over {w a b : World} {B : Nat} {row : Option Nat} (h : w.grownBy a (some B)) (hg : a.grownBy b row) (hr : ∀ k, row = some k → w.heap.size ≤ k) : w.grownBy b (some B) :=
  ⟨hg.os.trans h.os, hg.tape.trans h.tape, hg.output.trans h.output, Nat.le_trans h.size hg.size, fun k hk hne => (hg.block k (Nat.lt_of_lt_of_le hk h.size) (fun e => by have := hr k e.symm; omega)).trans (h.block k hk hne)⟩
theorem SetL.grown {w w' : World} {M : Nat} {l : List ByteArray} {row : Option Nat} (h : SetL w M l) (hg : w.grownBy w' row) (hne : some M ≠ row) : SetL w' M l := h.kept hg hne
/-- A row of the call's own has grown; nothing of the checker's has turned. -/
theorem CkIn.grown {w w' : World} {B G V A F O : Nat} {c : Cx} {d base : Nat} {row : Option Nat} (h : CkIn w B G V A F O c d) (hg : w.grownBy w' row) (hB : B < base) (hG : G < base) (hV : V < base) (hA : A < base) (hF : F < base) (hO : O < base) (hr : ∀ k, row = some k → base ≤ k) : CkIn w' B G V A F O c d := by
  have hne : ∀ M, M < base → some M ≠ row := fun M hM e => by have := hr M e.symm; omega
  exact ⟨(hg.block B h.lt (hne B hB)).trans h.box, h.g.kept hg (hne G hG), h.v.kept hg (hne V hV), h.a.kept hg (hne A hA), h.f.kept hg (hne F hF), h.o.kept hg (hne O hO)⟩
/-- The trees lie in w0, ahead of the checker's box. -/
structure Held (w0 w : World) (B : Nat) : Prop where
  low : Below w0.heap.size w0 w
  hB : w0.heap.size ≤ B
theorem Held.grown {w0 w w' : World} {B : Nat} (h : Held w0 w B) (hg : w.grownBy w' (some B)) : Held w0 w' B :=
  ⟨h.low.grown hg h.low.size (fun k hk => by cases hk; exact h.hB), h.hB⟩
theorem Try.infoInt : (Try.prog.info? 3).map (fun i => (i.zero, i.size, i.bytes)) = some (some (.int .i64 0), 1, 8) := by kernel_rfl
def numCells (l : List Nat) : List Value := l.map fun n : Nat => Value.int .i64 (n : Int)

theorem eqs {k : BA} {l : List UInt8} (op : BA) (hk : k.toList = l) : (op.toList == l) = decide (op = k) := by rw [← hk, toList_beq]
theorem tab_two (op : BA) : ∀ l : List (BA × Int), (∀ p ∈ l, p.2 = 2) → tabLook op l = 2 ∨ tabLook op l = -2
  | [], _ => .inr rfl
  | (k, v) :: l, h => by
    rw [tabLook]
    by_cases e : op = k
    · rw [if_pos e]; exact .inl (h (k, v) (List.mem_cons_self ..))
    · rw [if_neg e]; exact tab_two op l (fun p hp => h p (List.mem_cons_of_mem _ hp))
theorem operands_else {op : BA} (h1 : op ≠ sNum) (h2 : op ≠ sVar) (h3 : op ≠ sElem) (h4 : op ≠ sCall) (h5 : op ≠ sNeg) (h6 : op ≠ sNot) : operands op = 2 ∨ operands op = -2 := by
  unfold operands opsTab
  rw [tabLook, if_neg h1, tabLook, if_neg h2, tabLook, if_neg h3, tabLook, if_neg h5, tabLook, if_neg h6, tabLook, if_neg h4]
  exact tab_two op _ (by simp)
theorem After.okE {w w' : World} {B G V A F O : Nat} {c : Cx} {r : Res (Nat × Nat)} {n d : Nat} {v : Int} (hg : w.grownBy w' (some B)) (hr : r = .ok (n, d)) (hc : CkIn w' B G V A F O c d) (hv : v = (n : Int)) : After w B G V A F O c r (.returned (.int .i64 v)) w' := by
  subst hv; exact After.ok hg hr hc
theorem After.lift {w w1 w' : World} {B G V A F O : Nat} {c : Cx} {r : Res (Nat × Nat)} {e : Ending} (hg : w.grownBy w1 (some B)) (h : After w1 B G V A F O c r e w') : After w B G V A F O c r e w' := ⟨grown_trans hg h.1, h.2⟩

set_option maxHeartbeats 8000000 in
theorem expr_any {w0 : World} {B G V A F O : Nat} {c : Cx} {K0 : Nat} (hs : Small c K0) (n : Nat) : ∀ (e : Ex) (u : Value) (w : World) (d : Nat), ExsAt w0 n u e.args → Held w0 w B → CkIn w B G V A F O c d → d ≤ K0 → K0 + 5 * e.nodes ≤ 1000000000 →
    Calls Try.prog 85 #[.pointer (some ⟨B, 0, none⟩), .agg #[.string e.op, .int .u32 e.num, .string e.name, u]] w fun e' w' => After w B G V A F O c (exprC c e d) e' w' := by
  induction n using Nat.strongRecOn with
  | ind n ih =>
  intro e u w d hE hH hC hd hK
  obtain ⟨op, num, name, args⟩ := e
  change ExsAt w0 n u args at hE
  change Calls Try.prog 85 #[.pointer (some ⟨B, 0, none⟩), .agg #[.string op, .int .u32 num, .string name, u]] w _
  obtain ⟨ua, ucap, rfl, hu1, hu2⟩ := hE.len
  have HE := Keep.mk hE
  have HH := Keep.mk hH
  have HC := Keep.mk hC
  have IH := Keep.mk ih
  have HQ : Keep (exprC c (.mk op num name args) d = (req (decide (operands op = -1) || decide (operands op = (args.length : Int))) c.name 3).bind fun _ => (exprsC c args d).bind fun r => opC c op name r.1 r.2) := ⟨by rw [exprC]⟩
  have hnl : (Ex.mk op num name args).nodes = 1 + nodesL args := by rw [Ex.nodes]
  have hll := length_nodesL args
  rw [hnl] at hK
  unfold maxLen at hu2
  clear hE hH hC ih
  go_enter Try.func85, Try.ntmps85
  go_wp2_with fail
  refine (operands_any op _).mono ?_
  rintro _ w1 ⟨rfl, hb1⟩
  have hY : (w.alloc (.cells #[.string op, .int .u32 num, .string name, .slice ua args.length ucap] 42)).heap[w.heap.size]? = some (.cells #[.string op, .int .u32 num, .string name, .slice ua args.length ucap] 42 (0, 0)) := heap_alloc_new w _
  have hb0 : Below w.heap.size w (w.alloc (.cells #[.string op, .int .u32 num, .string name, .slice ua args.length ucap] 42)) := (Below.refl _ _).alloc (Nat.le_refl _) _
  have HB1 := Keep.mk (hb0.trans (hb1.mono hb0.size))
  have HY1 := Keep.mk ((hb1.block w.heap.size (by simp)).trans hY)
  clear hY hb0 hb1
  have HC1 := Keep.mk (HC.out.below HB1.out)
  have HH1 := Keep.mk (HH.out.grown (grown_low HB1.out))
  have y3 : w1.cell? ⟨w.heap.size, 3, none⟩ = some (.slice ua args.length ucap) := by simp [World.cell?, HY1.out]
  have yl : w.heap.size < w1.heap.size := (Array.getElem?_eq_some_iff.1 HY1.out).1
  have c4 := HC1.out.cell 4
  have cl := HC1.out.lt
  simp only [List.getElem?_cons_zero, List.getElem?_cons_succ] at c4
  by_cases h1 : operands op = -1 ∨ operands op = (args.length : Int)
  · have hrq : (decide (operands op = -1) || decide (operands op = (args.length : Int))) = true := by rcases h1 with h | h <;> simp [h]
    rw [hrq] at HQ
    have HQ2 : Keep (exprC c (.mk op num name args) d = (exprsC c args d).bind fun r => opC c op name r.1 r.2) := ⟨HQ.out⟩
    clear hrq HQ
    have HZ1 := Keep.mk h1
    obtain ⟨z, hz⟩ : ∃ z, operands op = z := ⟨_, rfl⟩
    rw [hz] at h1 ⊢
    have HZ := Keep.mk hz
    clear hz
    go_upto_region 2 with (fail)
    go_cut [22] from 14 to 27 (fun v22 wx => Below w1.heap.size w1 wx)
    case first =>
      by_cases g1 : z = -1
      · have q1 : (z == -1) = true := by simp [g1]
        clear h1 g1
        go_still_tail 13, (by kernel_rfl)
        change wpList _ _ _ _ _ w1.drew
        go_wp2_with fail
        refine (require_ok _ _ _).mono ?_
        rintro _ w2 ⟨⟨v2, rfl⟩, rfl⟩
        go_wp2
        go_meet
        exact (Below.refl _ _).drew
      · have q1 : (z == -1) = false := by simp [g1]
        have q2 : (z == (args.length : Int)) = true := by rcases h1 with h | h; exact absurd h g1; simp [h]
        clear h1 g1
        go_still_tail 13, (by kernel_rfl)
        change wpList _ _ _ _ _ w1.drew
        go_wp2_with fail
        refine (require_ok _ _ _).mono ?_
        rintro _ w2 ⟨⟨v2, rfl⟩, rfl⟩
        go_wp2
        go_meet
        exact (Below.refl _ _).drew
    case rest =>
    have hb2 := hcut
    have HB2 := Keep.mk (HB1.out.trans (hb2.mono HB1.out.size))
    have HC2 := Keep.mk (HC.out.below HB2.out)
    have HH2 := Keep.mk (HH.out.grown (grown_low HB2.out))
    have HY2 := Keep.mk ((hb2.block w.heap.size yl).trans HY1.out)
    clear h1 y3 yl c4 cl hcut hb2 HB1 HC1 HH1 HY1
    generalize hw2 : wc = w2 at *
    clear hw2
    have y3 : w2.cell? ⟨w.heap.size, 3, none⟩ = some (.slice ua args.length ucap) := by simp [World.cell?, HY2.out]
    have yl : w.heap.size < w2.heap.size := (Array.getElem?_eq_some_iff.1 HY2.out).1
    have HW := Keep.mk (show B < w.heap.size ∧ G < w.heap.size ∧ V < w.heap.size ∧ A < w.heap.size ∧ F < w.heap.size ∧ O < w.heap.size from ⟨HC.out.lt, HC.out.g.lt, HC.out.v.lt, HC.out.a.lt, HC.out.f.lt, HC.out.o.lt⟩)
    go_wp2_with fail
    clear y3 yl
    have HR0 : Keep (w2.ownsRow w.heap.size 3 1 (.slice none 0 0) ([] : List Nat).length (numCells [])) := ⟨World.ownsRow_nil _ _ _ _⟩
    obtain ⟨i0, hi, hz0, hz1, hz2⟩ := info_parts Try.infoInt
    go_loopw [31, 6] (fun i s6 wr => ∃ (k : Nat) (ns : List Nat) (d' : Nat), k ≤ args.length ∧ i = .int .i64 k ∧ d' ≤ K0 ∧ ns.length = k ∧ Keep (exprsC c (args.take k) d = .ok (ns, d')) ∧ Keep (wr.ownsRow w.heap.size 3 1 s6 ns.length (numCells ns)) ∧ Keep (CkIn wr B G V A F O c d') ∧ Keep (w.grownBy wr (some B)) ∧
      Keep (wr.heap[w.heap.size]? = some (.cells #[.string op, .int .u32 num, .string name, .slice ua args.length ucap] 42 (0, 0)))) (fun i _ _ => args.length - (intOf i).toNat)
    case atStart => exact ⟨0, [], d, Nat.zero_le _, rfl, hd, rfl, ⟨by rw [List.take_zero, exprsC_nil]⟩, HR0, HC2, ⟨grown_low HB2.out⟩, HY2⟩
    case round =>
      obtain ⟨k, ns, d', hk, rfl, hd', hnk, HX, HR, HCr, HGr, HYr⟩ := hrel
      clear HR0 HC2 HB2 HY2 HH2
      by_cases hlt : k < args.length
      · have k0 : (0 : Int) ≤ k := by omega
        have k1 : (k : Int) < args.length := by omega
        obtain ⟨e, hek⟩ : ∃ e, args[k]? = some e := ⟨_, List.getElem?_eq_getElem hlt⟩
        obtain ⟨m, b, o, cap, u, hnm, hua, hb, x0, x1, x2, x3, hu⟩ := HE.out.get hek
        simp only [Value.slice.injEq, true_and] at hua
        obtain ⟨rfl, rfl⟩ := hua
        have HHr := Keep.mk (HH.out.grown HGr.out)
        have z0 := (HHr.out.low.cell (p := ⟨b, o + k * 4, none⟩) hb).trans x0
        have z1 := (HHr.out.low.cell (p := ⟨b, o + k * 4 + 1, none⟩) hb).trans x1
        have z2 := (HHr.out.low.cell (p := ⟨b, o + k * 4 + 2, none⟩) hb).trans x2
        have z3 := (HHr.out.low.cell (p := ⟨b, o + k * 4 + 3, none⟩) hb).trans x3
        have hbl : b < wr.heap.size := Nat.lt_of_lt_of_le hb HHr.out.low.size
        have hng := nodesL_get hek
        have HEK := Keep.mk hek
        obtain ⟨uu, ucap', rfl, _, _⟩ := hu.len
        have HU := Keep.mk hu
        clear x0 x1 x2 x3 hek hu
        go_upto_region 7 with (fail)
        have hbs : Below wr.heap.size wr (wr.alloc (.cells #[.string e.op, .int .u32 e.num, .string e.name, .slice uu e.args.length ucap'] 42)) := (Below.refl _ _).alloc (Nat.le_refl _) _
        have HCs := Keep.mk (HCr.out.below hbs)
        have HGs := Keep.mk (grown_trans HGr.out (grown_low hbs))
        have HHs := Keep.mk (HH.out.grown HGs.out)
        have HRs := Keep.mk (World.ownsRow.alloc HR.out (.cells #[.string e.op, .int .u32 e.num, .string e.name, .slice uu e.args.length ucap'] 42))
        have HYs := Keep.mk ((hbs.block w.heap.size (Array.getElem?_eq_some_iff.1 HYr.out).1).trans HYr.out)
        have hZ : (wr.alloc (.cells #[.string e.op, .int .u32 e.num, .string e.name, .slice uu e.args.length ucap'] 42)).heap[wr.heap.size]? = some (.cells #[.string e.op, .int .u32 e.num, .string e.name, .slice uu e.args.length ucap'] 42 (0, 0)) := heap_alloc_new wr _
        have p0 : (wr.alloc (.cells #[.string e.op, .int .u32 e.num, .string e.name, .slice uu e.args.length ucap'] 42)).cell? ⟨wr.heap.size, 0, none⟩ = some (.string e.op) := by simp only [World.cell?, hZ]; rfl
        have p1 : (wr.alloc (.cells #[.string e.op, .int .u32 e.num, .string e.name, .slice uu e.args.length ucap'] 42)).cell? ⟨wr.heap.size, 1, none⟩ = some (.int .u32 e.num) := by simp only [World.cell?, hZ]; rfl
        have p2 : (wr.alloc (.cells #[.string e.op, .int .u32 e.num, .string e.name, .slice uu e.args.length ucap'] 42)).cell? ⟨wr.heap.size, 2, none⟩ = some (.string e.name) := by simp only [World.cell?, hZ]; rfl
        have p3 : (wr.alloc (.cells #[.string e.op, .int .u32 e.num, .string e.name, .slice uu e.args.length ucap'] 42)).cell? ⟨wr.heap.size, 3, none⟩ = some (.slice uu e.args.length ucap') := by simp only [World.cell?, hZ]; rfl
        have pl : wr.heap.size < (wr.alloc (.cells #[.string e.op, .int .u32 e.num, .string e.name, .slice uu e.args.length ucap'] 42)).heap.size := by simp
        clear hZ hbs z0 z1 z2 z3 hbl HCr HGr HHr HR HYr
        generalize (wr.alloc (.cells #[.string e.op, .int .u32 e.num, .string e.name, .slice uu e.args.length ucap'] 42)) = ws at *
        have HI := Keep.mk (IH.out m (by omega) e _ ws d' HU.out HHs.out HCs.out hd' (by omega))
        clear IH
        go_wp2_with fail
        refine HI.out.mono ?_
        rintro e' w4 hAf
        clear p0 p1 p2 p3 pl
        cases hx : exprC c e d' with
        | bad v =>
          rw [hx] at hAf
          obtain ⟨hg4, rfl⟩ := hAf
          have hsplit : args = args.take k ++ e :: args.drop (k + 1) := by
            obtain ⟨hk2, he2⟩ := List.getElem?_eq_some_iff.1 HEK.out
            rw [← he2, ← List.drop_eq_getElem_cons hk2, List.take_append_drop]
          have hbad := exprsC_bad (m := args.drop (k + 1)) HX.out hx
          rw [← hsplit] at hbad
          exact ⟨rfl, After.bad (grown_trans HGs.out hg4) (by rw [HQ2.out, hbad]; rfl)⟩
        | ok r =>
          obtain ⟨n1, d2⟩ := r
          rw [hx] at hAf
          obtain ⟨hg4, rfl, hc4⟩ := hAf
          have hle := exprC_le hs e d' n1 d2 hx
          have HX2 : Keep (exprsC c (args.take (k + 1)) d = .ok (ns ++ [n1], d2)) := ⟨by
            rw [List.take_add_one, HEK.out]
            exact exprsC_snoc_ok HX.out hx⟩
          have HC4 := Keep.mk hc4
          have HG4 := Keep.mk (grown_trans HGs.out hg4)
          have HR4 := Keep.mk (ownRow_kept HRs.out hg4 (.inr (fun e => by have := (World.ownsRow.lt HRs.out _ e).1; have := HW.out.1; omega)))
          have HY4 := Keep.mk ((hg4.block w.heap.size (Array.getElem?_eq_some_iff.1 HYs.out).1 (fun e => by cases e; exact absurd HW.out.1 (Nat.lt_irrefl _))).trans HYs.out)
          have hd2 : d2 ≤ K0 := by omega
          clear hg4 hc4 hx HCs HGs HHs HRs HYs HI hle
          have hz4 := HG4.out.size
          go_wp2_with (at_builtin; go_must (refine wpList_append_slc rfl _ _ 85 rfl w.heap.size 3 i0 (.int .i64 0) 1 8 Try.underlying85 hi hz0 hz1 hz2 rfl (by decide) _ ns.length (numCells ns) rfl (World.ownsRow.alloc HR4.out _) _ 1 [.int .i64 (n1 : Int)] rfl (Slc.made (t := 3) [.int .i64 (n1 : Int)] (by decide) rfl) (by simp [Value.oneCell']) (by unfold maxLen; omega) (by omega) (by simp; omega) ?_); intro v5 w5 hown5 hg5 _; have H5 := Keep.mk (And.intro hown5 hg5); clear hown5 hg5)
          have hba : Below w4.heap.size w4 (w4.alloc (.cells #[.int .i64 (n1 : Int)] 3)) := (Below.refl _ _).alloc (Nat.le_refl _) _
          have hrow : ∀ j, Value.ownBlock u6 = some j → w.heap.size ≤ j := fun j hj => (World.ownsRow.lt HR4.out j hj).1
          have HW' := HW.out
          have HC5 := Keep.mk ((HC4.out.below hba).grown H5.out.2 HW'.1 HW'.2.1 HW'.2.2.1 HW'.2.2.2.1 HW'.2.2.2.2.1 HW'.2.2.2.2.2 hrow)
          have HG5 := Keep.mk (grown_over (grown_trans HG4.out (grown_low hba)) H5.out.2 hrow)
          have hya := (hba.block w.heap.size (Array.getElem?_eq_some_iff.1 HY4.out).1).trans HY4.out
          have HY5 := Keep.mk ((H5.out.2.block w.heap.size (Array.getElem?_eq_some_iff.1 hya).1 (fun e => ownsRow_ne HR4.out HY4.out (by decide) e.symm)).trans hya)
          refine ⟨⟨k + 1, ns ++ [n1], d2, by omega, by go_num, hd2, by simp [hnk], HX2, ⟨?_⟩, HC5, HG5, HY5⟩, by simp [intOf]; omega⟩
          rw [List.length_append, List.length_singleton, numCells, List.map_append]
          exact H5.out.1
      · have hka : k = args.length := by omega
        subst hka
        rw [List.take_length] at HX
        have HQ3 : Keep (exprC c (.mk op num name args) d = opC c op name ns d') := ⟨by rw [HQ2.out, HX.out]; rfl⟩
        have HEXL := Keep.mk (exprsC_le hs args d ns d' HX.out)
        clear HX HQ2 IH hi hz0 hz1 hz2 hnk
        have HNs : Keep (NumsAt wr u6 ns) := ⟨Slc.of_owns HR.out⟩
        have hu6 : u6.ownBlock ≠ some B := fun e => by have := (World.ownsRow.lt HR.out _ e).1; have := HW.out.1; omega
        have y0 : wr.cell? ⟨w.heap.size, 0, none⟩ = some (.string op) := by simp [World.cell?, HYr.out]
        have y2 : wr.cell? ⟨w.heap.size, 2, none⟩ = some (.string name) := by simp [World.cell?, HYr.out]
        have yl : w.heap.size < wr.heap.size := (Array.getElem?_eq_some_iff.1 HYr.out).1
        by_cases gsNum : op = sNum
        · have fsNum : (op.toList == [110, 117, 109]) = true := by rw [eqs op (k := sNum) (by decide +kernel), decide_eq_true gsNum]
          have HRES : Keep (exprC c (.mk op num name args) d = .ok (1, d')) := ⟨by rw [HQ3.out]; unfold opC; rw [if_pos gsNum]⟩
          clear gsNum
          go_wp2_with fail
          go_ret
          exact After.ok HGr.out HRES.out HCr.out
        · have fsNum : (op.toList == [110, 117, 109]) = false := by rw [eqs op (k := sNum) (by decide +kernel), decide_eq_false gsNum]
          by_cases gsVar : op = sVar
          · have fsVar : (op.toList == [118, 97, 114]) = true := by rw [eqs op (k := sVar) (by decide +kernel), decide_eq_true gsVar]
            have HRES : Keep (exprC c (.mk op num name args) d = (scalarC c name).bind fun _ => .ok (1, d')) := ⟨by rw [HQ3.out]; unfold opC; rw [if_neg gsNum, if_pos gsVar]⟩
            clear gsNum gsVar
            go_wp2_with fail
            refine (scalar_any HCr.out name).mono ?_
            rintro e' w4 ⟨hen, rfl⟩
            cases hsc : scalarC c name with
            | bad v =>
              rw [hsc] at hen HRES
              obtain rfl : e' = _ := hen
              exact ⟨rfl, After.bad HGr.out HRES.out⟩
            | ok _ =>
              rw [hsc] at hen HRES
              obtain ⟨v4, rfl⟩ := hen
              clear hsc
              go_wp2_with fail
              go_ret
              exact After.ok HGr.out HRES.out HCr.out
          · have fsVar : (op.toList == [118, 97, 114]) = false := by rw [eqs op (k := sVar) (by decide +kernel), decide_eq_false gsVar]
            by_cases gsElem : op = sElem
            · have fsElem : (op.toList == [101, 108, 101, 109]) = true := by rw [eqs op (k := sElem) (by decide +kernel), decide_eq_true gsElem]
              have hl1 : ns.length = 1 := by
                rw [HEXL.out.1]
                have h := HZ1.out
                rw [gsElem, show operands sElem = 1 from by decide +kernel] at h
                omega
              obtain ⟨a1, rfl⟩ : ∃ a, ns = [a] := List.length_eq_one_iff.1 hl1
              obtain ⟨na, nc, rfl, _, _, _, hnp⟩ := HNs.out
              obtain ⟨nb, no, rfl, hnb, hnc⟩ : ∃ b o, na = some ⟨b, o, none⟩ ∧ b < wr.heap.size ∧ wr.cell? ⟨b, o, none⟩ = some (.int .i64 (a1 : Int)) := by
                rcases hnp with h | ⟨b, o, h1, h2, h3⟩
                · simp at h
                · exact ⟨b, o, h1, h2, by have := h3 0 _ rfl; rwa [Nat.add_zero] at this⟩
              have hab : a1 ≤ 1000000000 := by have := HEXL.out.2.1 a1 (by simp); omega
              clear hnp
              have HRES : Keep (exprC c (.mk op num name args) d = (arrayC c name).bind fun _ => .ok (1 + a1, d')) := ⟨by rw [HQ3.out]; unfold opC; rw [if_neg gsNum, if_neg gsVar, if_pos gsElem]; rfl⟩
              clear gsNum gsVar gsElem
              go_wp2_with fail
              refine (array_any HCr.out name).mono ?_
              rintro e' w4 ⟨hen, rfl⟩
              cases hsc : arrayC c name with
              | bad v =>
                rw [hsc] at hen HRES
                obtain rfl : e' = _ := hen
                exact ⟨rfl, After.bad HGr.out HRES.out⟩
              | ok _ =>
                rw [hsc] at hen HRES
                obtain ⟨v4, rfl⟩ := hen
                clear hsc
                go_wp2_with fail
                go_ret
                exact After.ok HGr.out HRES.out HCr.out
            · have fsElem : (op.toList == [101, 108, 101, 109]) = false := by rw [eqs op (k := sElem) (by decide +kernel), decide_eq_false gsElem]
              by_cases gsCall : op = sCall
              · have fsCall : (op.toList == [99, 97, 108, 108]) = true := by rw [eqs op (k := sCall) (by decide +kernel), decide_eq_true gsCall]
                have HRES : Keep (exprC c (.mk op num name args) d = callC c name ns d') := ⟨by rw [HQ3.out]; unfold opC; rw [if_neg gsNum, if_neg gsVar, if_neg gsElem, if_pos gsCall]⟩
                have HCA := Keep.mk (call_any HCr.out name HNs.out hu6 (K := K0 + 5 * (1 + nodesL args)) (by omega) ⟨fun x f hf => by obtain ⟨b1, b2, b3⟩ := hs.funcs x f hf; omega⟩ (by omega) (fun x hx => by have := HEXL.out.2.1 x hx; rw [HEXL.out.1]; omega) (by rw [HEXL.out.1]; omega))
                obtain ⟨na, nc, rfl, _, _, _, _⟩ := HNs.out
                clear gsNum gsVar gsElem gsCall
                go_wp2_with fail
                refine HCA.out.mono ?_
                rintro e' w4 hAf
                rw [← HRES.out] at hAf
                have hAL := hAf.lift HGr.out
                cases hx : exprC c (.mk op num name args) d with
                | bad v =>
                  rw [hx] at hAL
                  obtain ⟨hg, hv⟩ := hAL
                  obtain rfl : e' = _ := hv
                  exact ⟨rfl, After.bad hg hx⟩
                | ok r =>
                  obtain ⟨n1, d2⟩ := r
                  rw [hx] at hAL
                  obtain ⟨hg, rfl, hc⟩ := hAL
                  have HF := Keep.mk (And.intro hg (And.intro hx hc))
                  clear hg hx hc hAf
                  go_wp2_with fail
                  go_ret
                  exact After.ok HF.out.1 HF.out.2.1 HF.out.2.2
              · have fsCall : (op.toList == [99, 97, 108, 108]) = false := by rw [eqs op (k := sCall) (by decide +kernel), decide_eq_false gsCall]
                by_cases gsNeg : op = sNeg
                · have fsNeg : (op.toList == [110, 101, 103]) = true := by rw [eqs op (k := sNeg) (by decide +kernel), decide_eq_true gsNeg]
                  have hl1 : ns.length = 1 := by
                    rw [HEXL.out.1]
                    have h := HZ1.out
                    rw [gsNeg, show operands sNeg = 1 from by decide +kernel] at h
                    omega
                  obtain ⟨a1, rfl⟩ : ∃ a, ns = [a] := List.length_eq_one_iff.1 hl1
                  obtain ⟨na, nc, rfl, _, _, _, hnp⟩ := HNs.out
                  obtain ⟨nb, no, rfl, hnb, hnc⟩ : ∃ b o, na = some ⟨b, o, none⟩ ∧ b < wr.heap.size ∧ wr.cell? ⟨b, o, none⟩ = some (.int .i64 (a1 : Int)) := by
                    rcases hnp with h | ⟨b, o, h1, h2, h3⟩
                    · simp at h
                    · exact ⟨b, o, h1, h2, by have := h3 0 _ rfl; rwa [Nat.add_zero] at this⟩
                  have hab : a1 ≤ 1000000000 := by have := HEXL.out.2.1 a1 (by simp); omega
                  clear hnp
                  have HRES : Keep (exprC c (.mk op num name args) d = .ok (1 + a1, d')) := ⟨by rw [HQ3.out]; unfold opC; rw [if_neg gsNum, if_neg gsVar, if_neg gsElem, if_neg gsCall, if_pos gsNeg]; rfl⟩
                  clear gsNum gsVar gsElem gsCall gsNeg
                  go_wp2_with fail
                  go_ret
                  exact After.ok HGr.out HRES.out HCr.out
                · have fsNeg : (op.toList == [110, 101, 103]) = false := by rw [eqs op (k := sNeg) (by decide +kernel), decide_eq_false gsNeg]
                  by_cases gsNot : op = sNot
                  · have fsNot : (op.toList == [110, 111, 116]) = true := by rw [eqs op (k := sNot) (by decide +kernel), decide_eq_true gsNot]
                    have hl1 : ns.length = 1 := by
                      rw [HEXL.out.1]
                      have h := HZ1.out
                      rw [gsNot, show operands sNot = 1 from by decide +kernel] at h
                      omega
                    obtain ⟨a1, rfl⟩ : ∃ a, ns = [a] := List.length_eq_one_iff.1 hl1
                    obtain ⟨na, nc, rfl, _, _, _, hnp⟩ := HNs.out
                    obtain ⟨nb, no, rfl, hnb, hnc⟩ : ∃ b o, na = some ⟨b, o, none⟩ ∧ b < wr.heap.size ∧ wr.cell? ⟨b, o, none⟩ = some (.int .i64 (a1 : Int)) := by
                      rcases hnp with h | ⟨b, o, h1, h2, h3⟩
                      · simp at h
                      · exact ⟨b, o, h1, h2, by have := h3 0 _ rfl; rwa [Nat.add_zero] at this⟩
                    have hab : a1 ≤ 1000000000 := by have := HEXL.out.2.1 a1 (by simp); omega
                    clear hnp
                    have HRES : Keep (exprC c (.mk op num name args) d = .ok (max 2 a1, d')) := ⟨by rw [HQ3.out]; unfold opC; rw [if_neg gsNum, if_neg gsVar, if_neg gsElem, if_neg gsCall, if_neg gsNeg, if_pos gsNot]; rfl⟩
                    clear gsNum gsVar gsElem gsCall gsNeg gsNot
                    have hmx : (if (2 : Int) < (a1 : Int) then (a1 : Int) else 2) = ((max 2 a1 : Nat) : Int) := by split <;> omega
                    go_wp2_with fail
                    go_ret
                    exact After.ok HGr.out HRES.out HCr.out
                  · have fsNot : (op.toList == [110, 111, 116]) = false := by rw [eqs op (k := sNot) (by decide +kernel), decide_eq_false gsNot]
                    have hl2 : ns.length = 2 := by
                      rw [HEXL.out.1]
                      have h := HZ1.out
                      rcases operands_else gsNum gsVar gsElem gsCall gsNeg gsNot with h2 | h2 <;> rw [h2] at h <;> omega
                    obtain ⟨a1, a2, rfl⟩ : ∃ a b, ns = [a, b] := match ns, hl2 with | [x, y], _ => ⟨x, y, rfl⟩
                    have HRES : Keep (exprC c (.mk op num name args) d = .ok (needBin op a1 a2, d')) := ⟨by rw [HQ3.out]; unfold opC; rw [if_neg gsNum, if_neg gsVar, if_neg gsElem, if_neg gsCall, if_neg gsNeg, if_neg gsNot]; rfl⟩
                    obtain ⟨na, nc, rfl, _, _, _, hnp⟩ := HNs.out
                    obtain ⟨nb, no, rfl, hnb, hnc, hnc2⟩ : ∃ b o, na = some ⟨b, o, none⟩ ∧ b < wr.heap.size ∧ wr.cell? ⟨b, o, none⟩ = some (.int .i64 (a1 : Int)) ∧ wr.cell? ⟨b, o + 1, none⟩ = some (.int .i64 (a2 : Int)) := by
                      rcases hnp with h | ⟨b, o, h1, h2, h3⟩
                      · simp at h
                      · exact ⟨b, o, h1, h2, by have := h3 0 _ rfl; rwa [Nat.add_zero] at this, h3 1 _ rfl⟩
                    have hab1 : a1 ≤ 1000000000 := by have := HEXL.out.2.1 a1 (by simp); omega
                    have hab2 : a2 ≤ 1000000000 := by have := HEXL.out.2.1 a2 (by simp); omega
                    clear hnp gsNum gsVar gsElem gsCall gsNeg gsNot
                    go_upto_region 24 with (fail)
                    go_quiet (fail)
                    have HD := Keep.mk (below_drewN (Below.refl wr.heap.size wr) nq)
                    have HGd := Keep.mk (grown_trans HGr.out (grown_low HD.out))
                    have HCd := Keep.mk (HCr.out.below HD.out)
                    have y0' := (HD.out.cell (p := ⟨w.heap.size, 0, none⟩) yl).trans y0
                    have yl' : w.heap.size < (wr.drewN nq).heap.size := yl
                    clear y0 y2 yl hnb hnc hnc2 HGr HCr HD HYr HNs
                    generalize wr.drewN nq = wd at *
                    by_cases gsGt : op = sGt
                    · have fsGt : (op.toList == [62]) = true := by rw [eqs op (k := sGt) (by decide +kernel), decide_eq_true gsGt]
                      have HN : Keep (needBin op a1 a2 = max 3 (max a1 (1 + a2))) := ⟨by unfold needBin; rw [if_pos (Or.inl gsGt)]⟩
                      clear gsGt
                      go_wp2_with fail
                      all_goals (go_ret; exact After.okE HGd.out HRES.out HCd.out (by rw [HN.out]; omega))
                    · have fsGt : (op.toList == [62]) = false := by rw [eqs op (k := sGt) (by decide +kernel), decide_eq_false gsGt]
                      by_cases gsLe : op = sLe
                      · have fsLe : (op.toList == [60, 61]) = true := by rw [eqs op (k := sLe) (by decide +kernel), decide_eq_true gsLe]
                        have HN : Keep (needBin op a1 a2 = max 3 (max a1 (1 + a2))) := ⟨by unfold needBin; rw [if_pos (Or.inr gsLe)]⟩
                        clear gsGt gsLe
                        go_wp2_with fail
                        all_goals (go_ret; exact After.okE HGd.out HRES.out HCd.out (by rw [HN.out]; omega))
                      · have fsLe : (op.toList == [60, 61]) = false := by rw [eqs op (k := sLe) (by decide +kernel), decide_eq_false gsLe]
                        by_cases gsNe : op = sNe
                        · have fsNe : (op.toList == [33, 61]) = true := by rw [eqs op (k := sNe) (by decide +kernel), decide_eq_true gsNe]
                          have HN : Keep (needBin op a1 a2 = max 3 (max (1 + a1) (2 + a2))) := ⟨by unfold needBin; rw [if_neg (fun h => h.elim gsGt gsLe), if_pos gsNe]⟩
                          clear gsGt gsLe gsNe
                          go_wp2_with fail
                          all_goals (go_ret; exact After.okE HGd.out HRES.out HCd.out (by rw [HN.out]; omega))
                        · have fsNe : (op.toList == [33, 61]) = false := by rw [eqs op (k := sNe) (by decide +kernel), decide_eq_false gsNe]
                          by_cases gsAnd : op = sAnd
                          · have fsAnd : (op.toList == [38, 38]) = true := by rw [eqs op (k := sAnd) (by decide +kernel), decide_eq_true gsAnd]
                            have HN : Keep (needBin op a1 a2 = max (1 + a1) (2 + a2)) := ⟨by unfold needBin; rw [if_neg (fun h => h.elim gsGt gsLe), if_neg gsNe, if_pos gsAnd]⟩
                            clear gsGt gsLe gsNe gsAnd
                            go_wp2_with fail
                            all_goals (go_ret; exact After.okE HGd.out HRES.out HCd.out (by rw [HN.out]; omega))
                          · have fsAnd : (op.toList == [38, 38]) = false := by rw [eqs op (k := sAnd) (by decide +kernel), decide_eq_false gsAnd]
                            by_cases gsOr : op = sOr
                            · have fsOr : (op.toList == [124, 124]) = true := by rw [eqs op (k := sOr) (by decide +kernel), decide_eq_true gsOr]
                              have HN : Keep (needBin op a1 a2 = max (2 + a1) (3 + a2)) := ⟨by unfold needBin; rw [if_neg (fun h => h.elim gsGt gsLe), if_neg gsNe, if_neg gsAnd, if_pos gsOr]⟩
                              clear gsGt gsLe gsNe gsAnd gsOr
                              go_wp2_with fail
                              all_goals (go_ret; exact After.okE HGd.out HRES.out HCd.out (by rw [HN.out]; omega))
                            · have fsOr : (op.toList == [124, 124]) = false := by rw [eqs op (k := sOr) (by decide +kernel), decide_eq_false gsOr]
                              have HN : Keep (needBin op a1 a2 = max 2 (max a1 (1 + a2))) := ⟨by unfold needBin; rw [if_neg (fun h => h.elim gsGt gsLe), if_neg gsNe, if_neg gsAnd, if_neg gsOr]⟩
                              clear gsGt gsLe gsNe gsAnd gsOr
                              go_wp2_with fail
                              all_goals (go_ret; exact After.okE HGd.out HRES.out HCd.out (by rw [HN.out]; omega))
  · have hrq : (decide (operands op = -1) || decide (operands op = (args.length : Int))) = false := by simp only [not_or] at h1; simp [h1.1, h1.2]
    rw [hrq] at HQ
    have q1 : (operands op == -1) = false := by simp only [not_or] at h1; simp [h1.1]
    have q2 : (operands op == (args.length : Int)) = false := by simp only [not_or] at h1; simp [h1.2]
    clear h1
    generalize operands op = z at *
    go_upto_region 2 with (fail)
    go_still_tail 13, (by kernel_rfl)
    change wpList _ _ _ _ _ w1.drew
    go_wp2_with fail
    refine (require_bad _ _ _).mono ?_
    rintro _ w2 ⟨rfl, rfl⟩
    exact ⟨rfl, After.bad (grown_low HB1.out.drew) HQ.out⟩
end Go.Proofs.Ytgimdbflpdmlmaa
