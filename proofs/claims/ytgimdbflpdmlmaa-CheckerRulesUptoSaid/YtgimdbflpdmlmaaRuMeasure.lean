/- A row of the call's own that is appended to: its old cells stay where they were. The reference's Measure: the needs and depths that the program's check reckons. Condition: a program of size at most 400. -/
import Derived.Test.YtgimdbflpdmlmaaSlc
import Derived.Test.YtgimdbflpdmlmaaRegInv
import Derived.Test.YtgimdbflpdmlmaaRuCheckMath
import Derived.Test.YtgimdbflpdmlmaaRuCallees
import Derived.Test.YtgimdbflpdmlmaaRuNeeds
namespace Go.Proofs.Ytgimdbflpdmlmaa
set_option maxRecDepth 100000
open Go.RowKit Go.Shelf
section
variable {P : Program} {w : World}
theorem run_append_stays (base : Nat) (t ty e : TypeId) (i : TypeInfo) (z : Value) (size bytes : Nat) (ht : P.underlying t = some (.slice e)) (hi : P.info? e = some i) (hz : i.zero = some z)
    (hsize : i.size = size) (hby : i.bytes = bytes) (hzs : z.cells.size = size) (hsz : 0 < size)
    (v : Value) (n : Nat) (xs : List Value) (hown : w.ownsRow base e size v n xs) (u : Value) (m : Nat) (news : List Value) (hu : Slc w size u m news) (hm : 0 < m) (h1 : ∀ x ∈ news, x.oneCell' = true)
    (h63 : n + m ≤ maxLen) (hbytes : (n + m) * bytes ≤ 140737488355328) (hbase : base ≤ w.heap.size) :
    ∃ v' w', (Builtin.append_ #[t, t] ty #[v, u]).run P w = .ok v' w' ∧ w'.ownsRow base e size v' (n + m) (xs ++ news) ∧ w.grownBy w' v.ownBlock ∧ (v'.ownBlock = v.ownBlock ∨ v'.ownBlock = some w.heap.size) ∧ w'.ownsRow base e size v n xs := by
  obtain ⟨v', w', hr, h2, h3, h4⟩ := run_append_slc (P := P) (w := w) base t ty e i z size bytes ht hi hz hsize hby hzs hsz v n xs hown u m news hu h1 h63 hbytes hbase
  refine ⟨v', w', hr, h2, h3, h4, ?_⟩
  obtain ⟨a, c, rfl, _, _, hl, ha⟩ := hu
  rcases ha with ha | ⟨b, o, rfl, hb, hc⟩
  · omega
  have hnews : ∀ j u, news[j]? = some u → w.cell? ((⟨b, o, none⟩ : Addr).add j) = some u := fun j x hx => by rw [Addr.add_lit]; exact hc j x hx
  rcases id hown.2 with ⟨rfl, rfl⟩ | ⟨g, cap, cur, rfl, hbg, hg, hnc, hcm, hcs, htake⟩
  · exact ⟨hown.1, .inl ⟨rfl, rfl⟩⟩
  have holds : ∀ j u, xs[j]? = some u → w.cell? ((⟨g, 0, none⟩ : Addr).add j) = some u := hown.cells (g := g) rfl
  subst hsize
  by_cases hroom : n + m ≤ cap
  · have hfit : n * i.size + news.length ≤ cur.size := by rw [hl, hcs, ← Nat.add_mul]; exact Nat.mul_le_mul_right _ hroom
    have hr2 := run_append_room (P := P) w t ty e i ht hi g n cap cur hg ⟨b, o, none⟩ m c news hl hnews h1 hroom hfit
    rw [hr2] at hr
    cases hr
    obtain ⟨hlen, ⟨hq, _⟩ | ⟨g', cap', cur', hq, _, hg', _, _, hcs', htake'⟩⟩ := h2
    · cases hq
    · simp only [Value.slice.injEq, Option.some.injEq, Addr.mk.injEq, true_and, and_true] at hq
      obtain ⟨rfl, rfl⟩ := hq
      refine ⟨hown.1, .inr ⟨g, cap, cur', rfl, hbg, hg', hnc, hcm, hcs', ?_⟩⟩
      have := congrArg (List.take (n * i.size)) htake'
      rw [List.take_take, List.take_append_of_le_length (by rw [hown.1]; exact Nat.le_refl _), ← hown.1, List.take_length, Nat.min_eq_left] at this
      · rw [← hown.1]; exact this
      · rw [hown.1]; exact Nat.mul_le_mul_right _ (Nat.le_add_right _ _)
  · subst hby
    have hr2 := run_append_grow (P := P) w t ty e i z ht hi hz ⟨g, 0, none⟩ n cap xs hown.1 holds ⟨b, o, none⟩ m c news hl hnews (by omega) (by simp only [maxLen] at h63; omega) (growslice_fits (by omega) hbytes)
    rw [hr2] at hr
    cases hr
    refine World.ownsRow.kept (row := none) hown ⟨rfl, rfl, rfl, by simp, fun k hk _ => heap_alloc_old w.drew _ (show k < w.drew.heap.size from hk)⟩ (.inr (by simp [Value.ownBlock]))
end
theorem wp_append_slc3 {P : Program} {o : Oper} {a : Act} {w : World} {K : Act → World → Prop} {Q : Exit → Act → World → Prop} (s x : Operand) (t : TypeId)
    (ho : o.op = .call { callee := .builtin .append, args := #[s, x], argTypes := #[t, t] })
    (base : Nat) (e : TypeId) (i : TypeInfo) (z : Value) (size bytes : Nat) (ht : P.underlying t = some (.slice e)) (hi : P.info? e = some i) (hz : i.zero = some z)
    (hsize : i.size = size) (hby : i.bytes = bytes) (hzs : z.cells.size = size) (hsz : 0 < size)
    (v : Value) (n : Nat) (xs : List Value) (hs : a.eval s = v) (hown : w.ownsRow base e size v n xs) (u : Value) (m : Nat) (news : List Value) (hx : a.eval x = u) (hu : Slc w size u m news) (hm : 0 < m) (h1 : ∀ x ∈ news, x.oneCell' = true)
    (h63 : n + m ≤ maxLen) (hbytes : (n + m) * bytes ≤ 140737488355328) (hbase : base ≤ w.heap.size)
    (h : ∀ v' w', w'.ownsRow base e size v' (n + m) (xs ++ news) → w.grownBy w' v.ownBlock → (v'.ownBlock = v.ownBlock ∨ v'.ownBlock = some w.heap.size) → w'.ownsRow base e size v n xs → K (a.put o.dst v') w') :
    Oper.wp P o a w K Q := by
  obtain ⟨v', w', hrun, h2, h3, h4, h5⟩ := run_append_stays (P := P) (w := w) base t o.type e i z size bytes ht hi hz hsize hby hzs hsz v n xs hown u m news hu hm h1 h63 hbytes hbase
  unfold Oper.wp execOp
  simp only [ho, resolve, invoke, builtin, Sem.run_bind, Sem.run_pure, Result.andThen_ok, List.map_toArray, List.map_cons, List.map_nil, hs, hx, hrun]
  exact h v' w' h2 h3 h4 h5
open Go.RowKit Go.Shelf Go.Proofs.Ytgimdbflpdmlmaa.Ck

theorem FnsAt.take {w : World} {a : Option Addr} {n cap : Nat} {l : List Fu} (h : FnsAt w (.slice a n cap) l) {k : Nat} (hk : k ≤ n) : FnsAt w (.slice a k cap) (l.take k) := by
  obtain ⟨a', cap', hv, h1, h2, h3⟩ := h
  simp only [Value.slice.injEq] at hv
  obtain ⟨rfl, rfl, rfl⟩ := hv
  have hl : (l.take k).length = k := by rw [List.length_take, Nat.min_eq_left hk]
  refine ⟨a, cap, by rw [hl], by omega, h2, ?_⟩
  rcases h3 with rfl | ⟨b, o, rfl, hb, hc⟩
  · exact .inl (by simp)
  · refine .inr ⟨b, o, rfl, hb, fun i f hf => hc i f ?_⟩
    rw [List.getElem?_take] at hf
    split at hf
    · exact hf
    · cases hf
/-- A row that is about to grow: what has been written since wz. -/
structure Run5 (wz : World) (base : Nat) (v : Value) (k : Nat) (xs : List Value) (w' : World) : Prop where
  g : wz.grownBy w' v.ownBlock
  o : w'.ownsRow base 3 1 v k xs
section
variable {wz w1 w2 : World} {base k : Nat} {v : Value} {xs : List Value}
theorem Run5.refl (h : wz.ownsRow base 3 1 v k xs) : Run5 wz base v k xs wz := ⟨World.grownBy.refl _ _, h⟩
theorem Run5.later (h : Run5 wz base v k xs w1) (hb : Below w1.heap.size w1 w2) : Run5 wz base v k xs w2 := ⟨h.g.andThen (grown_none hb) (fun j hj => by cases hj), World.ownsRow.kept h.o (grown_none hb) (by cases hq : Value.ownBlock v <;> simp)⟩
theorem Run5.drew (h : Run5 wz base v k xs w1) : Run5 wz base v k xs w1.drew := h.later (Below.refl _ _).drew
theorem Run5.alloc (h : Run5 wz base v k xs w1) (o : Obj) : Run5 wz base v k xs (w1.alloc o) := h.later ((Below.refl _ _).alloc (Nat.le_refl _) o)
theorem Run5.on {v' : Value} (h : Run5 wz base v k xs w1) (hg : w1.grownBy w2 v.ownBlock) (hv : v'.ownBlock = v.ownBlock ∨ v'.ownBlock = some w1.heap.size) (ho : w2.ownsRow base 3 1 v k xs) : RowOn wz w2 v.ownBlock v' ∧ Run5 wz base v k xs w2 :=
  ⟨RowOn.put ⟨h.g, fun _ hq => .inr hq⟩ hg hv, h.g.trans hg, ho⟩
theorem Run5.put (h : Run5 wz base v k xs w1) (hg : w1.grownBy w2 v.ownBlock) (ho : w2.ownsRow base 3 1 v k xs) : Run5 wz base v k xs w2 := ⟨h.g.trans hg, ho⟩
end
/-- The two rows. -/
structure MRows (base : Nat) (w : World) (k : Nat) (s4 s5 : Value) (c : Cx) : Prop where
  nd : w.ownsRow base 3 1 s4 k (numCells (ndsOf c))
  dp : w.ownsRow base 3 1 s5 k (numCells (dpsOf c))
  off : ∀ q, s4.ownBlock = some q → s5.ownBlock ≠ some q
theorem MRows.later {base k : Nat} {w w' : World} {s4 s5 : Value} {c : Cx} (h : MRows base w k s4 s5 c) (hb : Below w.heap.size w w') : MRows base w' k s4 s5 c :=
  ⟨World.ownsRow.kept h.nd (grown_none hb) (by cases hq : Value.ownBlock s4 <;> simp), World.ownsRow.kept h.dp (grown_none hb) (by cases hq : Value.ownBlock s5 <;> simp), h.off⟩
theorem Ck.DepthIs.le {c : Cx} {ns : List BA} {d d' K : Nat} (h : DepthIs c ns d d') (hs : Small c K) : d' ≤ max d K := by
  rcases h.one with rfl | ⟨x, _, f, hf, rfl⟩
  · exact Nat.le_max_left _ _
  · have := (hs.funcs x f hf).2.2
    omega
theorem Ck.DpIn.le {l : List Fu} {dps : List Nat} {x : BA} {d0 q d K : Nat} (h : DpIn l dps x d0 q d) (hs : ∀ y ∈ dps, y + 1 ≤ K) : d ≤ max d0 K := by
  rcases h.one with rfl | ⟨i, g, e, _, _, h3, rfl⟩
  · exact Nat.le_max_left _ _
  · have := hs e (List.mem_of_getElem? h3)
    omega
set_option maxHeartbeats 32000000 in
theorem measure_any {w : World} {vs rs fs : Value} {p : Pr} {c0 cN : Cx} (hp : PrAt w vs rs fs p) (hz : sizeP p ≤ 400) (h0 : c0.funcs = []) (hn : (p.funcs.map Fu.name).Nodup) (hi : sIn ∉ p.funcs.map Fu.name) (ho : sOut ∉ p.funcs.map Fu.name) (hok : functionsC c0 p.funcs = .ok cN) :
    Calls Try.prog 33 #[.agg #[vs, rs, fs]] w fun e w' => ∃ v1 v2, e = .returned (.tuple #[v1, v2]) ∧ Slc w' 1 v1 p.funcs.length (numCells (ndsOf cN)) ∧ Slc w' 1 v2 p.funcs.length (numCells (dpsOf cN)) ∧ Below w.heap.size w w' := by
  obtain ⟨h1, h2, h3⟩ := hp
  obtain ⟨a1, c1, rfl, k1, k2⟩ := h1.len
  obtain ⟨a2, c2, rfl, k3, k4⟩ := h2.len
  obtain ⟨a3, c3, rfl, k5, k6⟩ := h3.len
  unfold maxLen at k2 k4 k6
  have H3 := Keep.mk h3
  have HZ := Keep.mk hz
  have HOK := Keep.mk (And.intro hn (And.intro hi (And.intro ho (And.intro h0 hok))))
  have hpl : p.funcs.length ≤ 400 := by
    unfold sizeP at hz
    have h4 : ∀ l : List Fu, l.length ≤ (l.map fuSz).sum := by
      intro l
      induction l with
      | nil => simp
      | cons f l ih =>
        have h3 : fuSz f = 1 + f.name.size / 8 + f.params.length + f.locals.length + szS f.body + eighths (f.params ++ f.locals) := rfl
        simp only [List.map_cons, List.sum_cons, List.length_cons]
        omega
    have := h4 p.funcs
    omega
  clear h1 h2 h3 hz hn hi ho h0 hok
  obtain ⟨i0, hi, hz0, hz1, hz2⟩ := info_parts Try.infoInt
  go_enter Try.func33, Try.ntmps33
  have hX := heap_alloc_new w (.cells #[.slice a1 p.vars.length c1, .slice a2 p.arrays.length c2, .slice a3 p.funcs.length c3] 26)
  have hb0 : Below w.heap.size w (w.alloc (.cells #[.slice a1 p.vars.length c1, .slice a2 p.arrays.length c2, .slice a3 p.funcs.length c3] 26)) := (Below.refl _ _).alloc (Nat.le_refl _) _
  have hz0' : (w.alloc (.cells #[.slice a1 p.vars.length c1, .slice a2 p.arrays.length c2, .slice a3 p.funcs.length c3] 26)).heap.size = w.heap.size + 1 := World.size_alloc ..
  go_upto_region 1 with (fail)
  generalize (w.alloc (.cells #[.slice a1 p.vars.length c1, .slice a2 p.arrays.length c2, .slice a3 p.funcs.length c3] 26)) = w0 at *
  have HB0 := Keep.mk hb0
  have HXL : Keep (w.heap.size < w0.heap.size) := ⟨by omega⟩
  have HFN : Keep (∀ w', Below w0.heap.size w0 w' → FnsAt w' (.slice a3 p.funcs.length c3) p.funcs) := ⟨fun w' hb => (H3.out.below hb0 (Nat.le_refl _)).below hb (Nat.le_refl _)⟩
  have HX : Keep (∀ w', Below w0.heap.size w0 w' → w'.cell? ⟨w.heap.size, 2, none⟩ = some (.slice a3 p.funcs.length c3) ∧ w.heap.size < w'.heap.size) := ⟨fun w' hb => by
    have e := (hb.block w.heap.size (by omega)).trans hX
    exact ⟨by simp [World.cell?, e], (Array.getElem?_eq_some_iff.1 e).1⟩⟩
  clear hX hb0 hz0' H3
  have hz1' : (w0.alloc (.cells #[] 3)).heap.size = w0.heap.size + 1 := World.size_alloc ..
  have HR0 : Keep (MRows w0.heap.size ((w0.alloc (.cells #[] 3)).alloc (.cells #[] 3)) 0 (.slice (some ⟨w0.heap.size, 0, none⟩) 0 0) (.slice (some ⟨w0.heap.size + 1, 0, none⟩) 0 0) c0) := ⟨by
    have e1 : ndsOf c0 = [] := by unfold ndsOf; rw [HOK.out.2.2.2.1]; rfl
    have e2 : dpsOf c0 = [] := by unfold dpsOf; rw [HOK.out.2.2.2.1]; rfl
    refine ⟨?_, ?_, fun q hq => ?_⟩
    · rw [e1]
      exact World.ownsRow.alloc (World.ownsRow_made (base := w0.heap.size) (e := 3) (size := 1) w0 #[] 0 (Nat.le_refl _) (by decide) rfl) _
    · rw [e2]
      have := World.ownsRow_made (base := w0.heap.size) (e := 3) (size := 1) (w0.alloc (.cells #[] 3)) #[] 0 (by omega) (by decide) rfl
      rw [hz1'] at this
      exact this
    · intro e
      simp only [Value.ownBlock, Option.some.injEq] at hq e
      omega⟩
  have HB1 : Keep (Below w0.heap.size w0 ((w0.alloc (.cells #[] 3)).alloc (.cells #[] 3))) := ⟨((Below.refl _ _).alloc (Nat.le_refl _) _).alloc (by simp) _⟩
  clear hz1'
  go_upto_region 2 with (fail)
  generalize ((w0.alloc (.cells #[] 3)).alloc (.cells #[] 3)) = w1 at *
  obtain ⟨x2, xl⟩ := HX.out w1 HB1.out
  go_wp2_with fail
  clear x2 xl
  go_loopw [17, 4, 5] (fun i s4 s5 wr => ∃ (k : Nat) (c : Cx), k ≤ p.funcs.length ∧ i = .int .i64 k ∧ Keep (MsIs c0 p.funcs k c) ∧ Keep (MRows w0.heap.size wr k s4 s5 c) ∧ Keep (Below w0.heap.size w0 wr)) (fun i _ _ _ => p.funcs.length - (intOf i).toNat)
  case atStart => exact ⟨0, c0, Nat.zero_le _, rfl, ⟨MsIs.zero HOK.out.2.2.2.1⟩, HR0, HB1⟩
  case round =>
    clear HR0 HB1
    obtain ⟨k, c, hk, rfl, HM, HR, HB⟩ := hrel
    obtain ⟨r4, d4, rfl⟩ := ownsRow_slice HR.out.nd
    obtain ⟨r5, d5, rfl⟩ := ownsRow_slice HR.out.dp
    have HL4 : Keep ((ndsOf c).length = k) := ⟨by rw [HM.out.len.1, List.length_take, Nat.min_eq_left hk]⟩
    have HL5 : Keep ((dpsOf c).length = k) := ⟨by rw [HM.out.len.2, List.length_take, Nat.min_eq_left hk]⟩
    by_cases hlt : k < p.funcs.length
    · have k0 : (0 : Int) ≤ k := by omega
      have k1 : (k : Int) < p.funcs.length := by omega
      have HE : ∃ r, stsC { c with name := (p.funcs[k]).name, own := (p.funcs[k]).params ++ (p.funcs[k]).locals } (p.funcs[k]).body 1 = .ok r ∧ MsIs c0 p.funcs (k + 1) { c with name := (p.funcs[k]).name, own := (p.funcs[k]).params ++ (p.funcs[k]).locals, funcs := ((p.funcs[k]).name, ⟨(p.funcs[k]).params.length, max 2 (max ((p.funcs[k]).params.length + 1) r.1), r.2⟩) :: c.funcs } := HM.out.step HOK.out.2.2.2.2 (List.getElem?_eq_getElem hlt)
      obtain ⟨f, hf⟩ : ∃ f, f = p.funcs[k] := ⟨_, rfl⟩
      have hfk : p.funcs[k]? = some f := by rw [hf]; exact List.getElem?_eq_getElem hlt
      rw [← hf] at HE
      clear hf
      obtain ⟨⟨need, dep⟩, hr1, hr2⟩ := HE
      obtain ⟨c', hc'⟩ : ∃ c' : Cx, c' = { c with name := f.name, own := f.params ++ f.locals } := ⟨_, rfl⟩
      rw [← hc'] at hr1
      have HCF : Keep (c'.funcs = c.funcs) := ⟨by rw [hc']⟩
      have HST := Keep.mk hr1
      have HNX := Keep.mk hr2
      have HSM : Keep (Small c' 2002) := ⟨⟨fun x g hg => by
        rw [HCF.out] at hg
        have h1 := (MsIs.small HOK.out.2.2.2.1 HM.out.run).funcs x g hg
        have h2 := wgt_take p.funcs k
        have h3 := wgt_size (p := p)
        have := HZ.out
        omega⟩⟩
      have HSMc : Keep (Small c 2002) := ⟨⟨fun x g hg => HSM.out.funcs x g (by rw [HCF.out]; exact hg)⟩⟩
      have HBD := Keep.mk (HM.out.bounds HOK.out.1 HSMc.out)
      have hbs := body_size (List.mem_of_getElem? hfk)
      have HBS : Keep (f.params.length + f.locals.length + nodesS f.body ≤ 800) := ⟨by have := HZ.out; omega⟩
      have hpar : f.params.length ≤ 800 := by have := HBS.out; omega
      have HNB : Keep (need ≤ 10000 ∧ dep ≤ 2002) := ⟨by
        have := stsC_le HSM.out _ _ _ _ HST.out
        have := HBS.out
        omega⟩
      obtain ⟨b, o, cap, up, ul, ub, hv, hb, x0, x1, x2, x3, hS1, hS2, nb, hS3⟩ := (HFN.out w0 (Below.refl _ _)).get hfk
      simp only [Value.slice.injEq, true_and] at hv
      obtain ⟨rfl, rfl⟩ := hv
      obtain ⟨b1, d1, rfl, _, _⟩ := hS1.len
      obtain ⟨b2, d2, rfl, _, _⟩ := hS2.len
      obtain ⟨b3, d3, rfl, _, _⟩ := hS3.len
      have HBDY := Keep.mk hS3
      have z0 := (HB.out.cell (p := ⟨b, o + k * 4, none⟩) hb).trans x0
      have z1 := (HB.out.cell (p := ⟨b, o + k * 4 + 1, none⟩) hb).trans x1
      have z2 := (HB.out.cell (p := ⟨b, o + k * 4 + 2, none⟩) hb).trans x2
      have z3 := (HB.out.cell (p := ⟨b, o + k * 4 + 3, none⟩) hb).trans x3
      have hbl : b < wr.heap.size := Nat.lt_of_lt_of_le hb HB.out.size
      have hkc : (k : Int) ≤ (c3 : Int) := by omega
      clear x0 x1 x2 x3
      clear hS1 hS2 hS3 hbs hr1 hr2 hc' hfk
      go_upto_region 5 with (fail)
      clear z0 z1 z2 z3 hb hbl
      obtain ⟨Z, hZ'⟩ : ∃ Z, Z = wr.heap.size := ⟨_, rfl⟩
      have hbz : Below wr.heap.size wr (wr.alloc (.cells #[.string f.name, .slice b1 f.params.length d1, .slice b2 f.locals.length d2, .slice b3 f.body.length d3] 36)) := (Below.refl _ _).alloc (Nat.le_refl _) _
      have hZ : (wr.alloc (.cells #[.string f.name, .slice b1 f.params.length d1, .slice b2 f.locals.length d2, .slice b3 f.body.length d3] 36)).heap[wr.heap.size]? = some (.cells #[.string f.name, .slice b1 f.params.length d1, .slice b2 f.locals.length d2, .slice b3 f.body.length d3] 36 (0, 0)) := heap_alloc_new wr _
      have hrl : ∀ j, (Value.ownBlock (.slice r4 k d4) = some j → w0.heap.size ≤ j ∧ j < Z) ∧ (Value.ownBlock (.slice r5 k d5) = some j → w0.heap.size ≤ j ∧ j < Z) := fun j => by
        rw [hZ']
        exact ⟨fun hj => World.ownsRow.lt HR.out.nd j hj, fun hj => World.ownsRow.lt HR.out.dp j hj⟩
      have HRL := Keep.mk hrl
      replace HR := Keep.mk (HR.out.later hbz)
      replace HB := Keep.mk (HB.out.trans (hbz.mono HB.out.size))
      rw [← hZ'] at hZ ⊢
      generalize (wr.alloc (.cells #[.string f.name, .slice b1 f.params.length d1, .slice b2 f.locals.length d2, .slice b3 f.body.length d3] 36)) = wz at *
      clear hbz hZ' wr hrl
      have hZl : Z < wz.heap.size := (Array.getElem?_eq_some_iff.1 hZ).1
      have HZZ := Keep.mk hZ
      have HZL := Keep.mk hZl
      clear hZ hZl
      obtain ⟨xs, hxs⟩ : ∃ xs, xs = numCells (ndsOf c) := ⟨_, rfl⟩
      have HXS := Keep.mk hxs
      have H50 : Keep (Run5 wz w0.heap.size (.slice r4 k d4) k xs wz) := ⟨Run5.refl (by rw [hxs]; exact HR.out.nd)⟩
      clear hxs
      have HRB : Keep (∀ w', Run5 wz w0.heap.size (.slice r4 k d4) k xs w' → Below w0.heap.size w0 w') := ⟨fun w' h => HB.out.grown h.g HB.out.size (fun q hq => ((HRL.out q).1 hq).1)⟩
      have HSK : Keep (∀ w', Run5 wz w0.heap.size (.slice r4 k d4) k xs w' → ((w'.cell? ⟨w.heap.size, 2, none⟩ = some (.slice (some ⟨b, o, none⟩) p.funcs.length c3) ∧ w'.cell? ⟨Z, 1, none⟩ = some (.slice b1 f.params.length d1)) ∧ w'.cell? ⟨Z, 3, none⟩ = some (.slice b3 f.body.length d3)) ∧ Run5 wz w0.heap.size (.slice r4 k d4) k xs w') := ⟨fun w' h => by
        have e := (h.g.block Z HZL.out (fun e => by have := ((HRL.out Z).1 e.symm).2; omega)).trans HZZ.out
        exact ⟨⟨⟨(HX.out w' (HRB.out w' h)).1, by simp [World.cell?, e]⟩, by simp [World.cell?, e]⟩, h⟩⟩
      have HCN : Keep (∀ wx, Run5 wz w0.heap.size (.slice r4 k d4) k xs wx → Calls Try.prog 55 #[.slice b3 f.body.length d3, .slice (some ⟨b, o, none⟩) k c3, .slice r4 k d4] wx fun e' w' => e' = .returned (.int .i64 (need : Int)) ∧ Below wx.heap.size wx w') := ⟨fun wx hx => by
        have hbx := HRB.out wx hx
        refine needs_any (c := c') (K0 := 2002) HSM.out (by decide) (fun x hx => by have := HBD.out.1 x hx; omega) (HM.out.rel HOK.out.1 HCF.out) nb f.body _ wx 1 need dep (HBDY.out.below hbx (Nat.le_refl _)) ((HFN.out wx hbx).take hk) ?_ (by have := HBS.out; omega) HST.out
        rw [HL4.out, ← HXS.out]; exact Slc.of_owns hx.o⟩
      have s1 : IntKind.i64.wrap ((f.params.length : Int) + 1) = f.params.length + 1 := IntWalk.i64_in _ (by omega)
      have hnb : need ≤ 10000 := HNB.out.1
      go_region_held3 (fun w' => ((w'.cell? ⟨w.heap.size, 2, none⟩ = some (.slice (some ⟨b, o, none⟩) p.funcs.length c3) ∧ w'.cell? ⟨Z, 1, none⟩ = some (.slice b1 f.params.length d1)) ∧ w'.cell? ⟨Z, 3, none⟩ = some (.slice b3 f.body.length d3)) ∧ Run5 wz w0.heap.size (.slice r4 k d4) k xs w')
        (first | with_reducible exact HSK.out _ (Run5.drew H50.out) | with_reducible exact HSK.out _ H50.out | with_reducible exact HSK.out _ (Run5.later (And.right (by assumption)) hb34) | with_reducible exact HSK.out _ H38.out.2.2 | with_reducible exact HSK.out _ (Run5.alloc (And.right (by assumption)) _) | with_reducible assumption)
        (first
          | (go_at_call 55; (with_reducible refine (HCN.out _ ?_).mono ?_); (exact And.right (by assumption)); rintro _ w34 ⟨rfl, hb34⟩)
          | (go_at_call 54; (refine (most3_any (a := 2) (b := f.params.length + 1) (c := need) (Slc.made (t := 3) [.int .i64 2, .int .i64 ((f.params.length : Int) + 1), .int .i64 (need : Int)] (by decide) rfl) (by simp)).mono ?_); rintro _ w5 ⟨rfl, rfl⟩)
          | (rw [if_pos (by rfl)]; have hS38 : Run5 wz w0.heap.size (.slice r4 k d4) k xs ((w34.alloc (.cells #[.int .i64 2, .int .i64 ((f.params.length : Int) + 1), .int .i64 (need : Int)] 3)).alloc (.cells #[.int .i64 ((max 2 (max (f.params.length + 1) need) : Nat) : Int)] 3)) := And.right (by assumption); (refine wp_append_slc3 (.tmp 22) (.tmp 37) 85 rfl w0.heap.size 3 i0 (.int .i64 0) 1 8 Try.underlying85 hi hz0 hz1 hz2 rfl (by decide) _ k xs rfl hS38.o _ 1 [.int .i64 ((max 2 (max (f.params.length + 1) need) : Nat) : Int)] rfl (by have h := Slc.made (w := w34.alloc (.cells #[.int .i64 2, .int .i64 ((f.params.length : Int) + 1), .int .i64 (need : Int)] 3)) (t := 3) [.int .i64 ((max 2 (max (f.params.length + 1) need) : Nat) : Int)] (show (1 : Nat) ≤ maxLen by decide) (size := 1) rfl; rw [World.size_alloc] at h; exact h) (by decide) (by simp [Value.oneCell']) (by unfold maxLen; omega) (by omega) (HRB.out _ hS38).size ?_); intro v38 w38 ho38 hg38 hv38 hk38; have H38 := Keep.mk (And.intro ho38 (Run5.on hS38 hg38 hv38 hk38)); clear ho38 hg38 hv38 hk38 hS38))
      obtain ⟨a38, c38, rfl⟩ := ownsRow_slice H38.out.1
      have HB38 := Keep.mk (HRB.out w38 H38.out.2.2)
      obtain ⟨cn, hcn⟩ : ∃ cn : Cx, cn = { c with name := f.name, own := f.params ++ f.locals, funcs := (f.name, ⟨f.params.length, max 2 (max (f.params.length + 1) need), dep⟩) :: c.funcs } := ⟨_, rfl⟩
      have HNX2 : Keep (MsIs c0 p.funcs (k + 1) cn) := ⟨by rw [hcn]; exact HNX.out⟩
      have HN4 : Keep (w38.ownsRow w0.heap.size 3 1 (.slice a38 (k + 1) c38) (k + 1) (numCells (ndsOf cn))) := ⟨by
        have := H38.out.1
        rw [hcn, ndsOf_cons]
        unfold numCells at *
        rw [List.map_append, ← HXS.out]
        exact this⟩
      have HDC : Keep (dpsOf cn = dpsOf c ++ [dep]) := ⟨by rw [hcn, dpsOf_cons]⟩
      clear hcn
      have HN5 : Keep (w38.ownsRow w0.heap.size 3 1 (.slice r5 k d5) k (numCells (dpsOf c))) := ⟨World.ownsRow.kept HR.out.dp H38.out.2.1.g (by
        cases hq : Value.ownBlock (.slice r5 k d5) with
        | none => exact .inl rfl
        | some q => exact .inr (fun e => HR.out.off q e.symm hq))⟩
      have HOFF : Keep (∀ q, Value.ownBlock (.slice a38 (k + 1) c38) = some q → Value.ownBlock (.slice r5 k d5) ≠ some q) := ⟨fun q hq he => by
        have h1 := ((HRL.out q).2 he).2
        have h2 := HZL.out
        rcases H38.out.2.1.o q hq with h | h
        · omega
        · exact HR.out.off q h he⟩
      have HO5 : Keep (∀ q, Value.ownBlock (.slice r5 k d5) = some q → w0.heap.size ≤ q) := ⟨fun q hq => ((HRL.out q).2 hq).1⟩
      have HSKx := Keep.mk (HSK.out w38 H38.out.2.2)
      have HCC := Keep.mk (callees_any nb f.body _ w38 (HBDY.out.below HB38.out (Nat.le_refl _)) (by have := HBS.out; omega))
      have HCL : Keep ((calleesL f.body).length ≤ 1000000) := ⟨by have := calleesL_len f.body; have := HBS.out; omega⟩
      have HDN := Keep.mk (sts_depth (c := c') (by rw [HCF.out]; exact HM.out.none HOK.out.1 HOK.out.2.1) (by rw [HCF.out]; exact HM.out.none HOK.out.1 HOK.out.2.2.1) f.body HST.out)
      generalize calleesL f.body = names at *
      have HZz : Keep (Z < w38.heap.size) := ⟨Nat.lt_of_lt_of_le HZL.out H38.out.2.2.g.size⟩
      clear hb34 H38 HCN HSK HRB H50 HZZ HR HRL HXS s1 hnb HNX
      obtain ⟨⟨⟨p2, p1⟩, p3⟩, _⟩ := HSKx.out
      have hzz := HZz.out
      go_wp2_with fail
      refine HCC.out.mono ?_
      rintro _ w39 ⟨v39, rfl, hS39, hb39⟩
      clear p2 p1 p3 hzz HSKx HCC
      have HB39 := Keep.mk (HB38.out.trans (hb39.mono HB38.out.size))
      have HN4b : Keep (w39.ownsRow w0.heap.size 3 1 (.slice a38 (k + 1) c38) (k + 1) (numCells (ndsOf cn))) := ⟨World.ownsRow.kept HN4.out (grown_none hb39) (by cases hq : Value.ownBlock (.slice a38 (k + 1) c38) <;> simp)⟩
      have HN5b : Keep (w39.ownsRow w0.heap.size 3 1 (.slice r5 k d5) k (numCells (dpsOf c))) := ⟨World.ownsRow.kept HN5.out (grown_none hb39) (by cases hq : Value.ownBlock (.slice r5 k d5) <;> simp)⟩
      have HSN := Keep.mk hS39
      clear hb39 hS39 HN4 HN5 HB38
      obtain ⟨na, nc, rfl, hnn1, hnn2⟩ := HSN.out.len
      unfold maxLen at hnn2
      have hnl := HCL.out
      have HW := Keep.mk (Below.refl w39.heap.size w39)
      go_wp2_with fail
      go_loopw [43, 8] (fun i s wr => ∃ (j d : Nat), j ≤ names.length ∧ i = .int .i64 j ∧ s = .int .i64 (d : Int) ∧ Keep (DepthIs c' (names.take j) 1 d) ∧ Keep (Below w39.heap.size w39 wr)) (fun i _ _ => names.length - (intOf i).toNat)
      case atStart => exact ⟨0, 1, Nat.zero_le _, rfl, rfl, ⟨by rw [List.take_zero]; exact DepthIs.nil c' 1⟩, HW⟩
      case round =>
        clear HW
        obtain ⟨j, dd, hj, rfl, rfl, HD, HBr⟩ := hrel
        have hdd : dd ≤ 2002 := by have := HD.out.le HSM.out; omega
        by_cases hlj : j < names.length
        · have j0 : (0 : Int) ≤ j := by omega
          have j1 : (j : Int) < names.length := by omega
          obtain ⟨x, hx⟩ : ∃ x, names[j]? = some x := ⟨_, List.getElem?_eq_getElem hlj⟩
          obtain ⟨nb', no', ncap', hv, hnb', y0⟩ := HSN.out.get hx
          simp only [Value.slice.injEq, true_and] at hv
          obtain ⟨rfl, rfl⟩ := hv
          have y1 := (HBr.out.cell (p := ⟨nb', no' + j, none⟩) hnb').trans y0
          have y2 : nb' < wr.heap.size := Nat.lt_of_lt_of_le hnb' HBr.out.size
          have HXN := Keep.mk hx
          obtain ⟨x2, xl⟩ := HX.out wr (HB39.out.trans (HBr.out.mono HB39.out.size))
          clear hx y0 hnb'
          generalize wr = wo at *
          go_wp2_with fail
          clear y1 y2 x2 xl
          go_loopw [52, 8] (fun i s wr => ∃ (q d : Nat), q ≤ k ∧ i = .int .i64 q ∧ s = .int .i64 (d : Int) ∧ Keep (DpIn (p.funcs.take k) (dpsOf c) x dd q d) ∧ Keep (Below w39.heap.size w39 wr)) (fun i _ _ => k - (intOf i).toNat)
          case atStart => exact ⟨0, dd, Nat.zero_le _, rfl, rfl, ⟨DpIn.zero _ _ _ _⟩, HBr⟩
          case round =>
            clear HBr
            clear wo
            obtain ⟨q, d, hq, rfl, rfl, HDP, HBr⟩ := hrel
            have hdb : d ≤ 2002 := by have := HDP.out.le HBD.out.2; omega
            obtain ⟨x2, xl⟩ := HX.out wr (HB39.out.trans (HBr.out.mono HB39.out.size))
            by_cases hlq : q < k
            · have q0 : (0 : Int) ≤ q := by omega
              have q1 : (q : Int) < k := by omega
              have q2 : (q : Int) < p.funcs.length := by omega
              have q3 : q < p.funcs.length := by omega
              obtain ⟨g, hg⟩ : ∃ g, p.funcs[q]? = some g := ⟨_, List.getElem?_eq_getElem q3⟩
              have hgt : (p.funcs.take k)[q]? = some g := by rw [List.getElem?_take, if_pos hlq]; exact hg
              obtain ⟨fb, fo, fcap, up', ul', ub', hv, hfb, y0, _, _, _, _, _, _, _⟩ := (HFN.out wr (HB39.out.trans (HBr.out.mono HB39.out.size))).get hg
              simp only [Value.slice.injEq, true_and, Option.some.injEq, Addr.mk.injEq] at hv
              obtain ⟨⟨rfl, rfl, _⟩, rfl⟩ := hv
              have HGT := Keep.mk hgt
              clear hg hgt
              by_cases hn : g.name = x
              · have e1 : (g.name.toList == x.toList) = true := by rw [toList_beq, decide_eq_true hn]
                have HN := Keep.mk hn
                obtain ⟨e, he⟩ : ∃ e, (dpsOf c)[q]? = some e := ⟨_, List.getElem?_eq_getElem (by rw [HL5.out]; exact hlq)⟩
                obtain ⟨db, dof, dcap, hv, hdb', hdc⟩ := num_get (l := dpsOf c) (v := .slice r5 k d5) (by rw [HL5.out]; exact Slc.of_owns HN5b.out) he
                rw [HL5.out] at hv
                simp only [Value.slice.injEq, true_and] at hv
                obtain ⟨rfl, rfl⟩ := hv
                have hdc := (HBr.out.cell (p := ⟨db, dof + q, none⟩) hdb').trans hdc
                have hdl : db < wr.heap.size := Nat.lt_of_lt_of_le hdb' HBr.out.size
                have heb : e ≤ 2002 := by have := HBD.out.2 e (List.mem_of_getElem? he); omega
                have r1 : IntKind.i64.wrap (1 + (e : Int)) = 1 + e := IntWalk.i64_in _ (by omega)
                have HST2 := Keep.mk (HDP.out.take HGT.out HN.out he)
                clear hn he hdb'
                go_wp2_with fail
                refine (most2_any (a := d) (b := 1 + e) (Slc.made (t := 3) [.int .i64 (d : Int), .int .i64 (1 + (e : Int))] (by decide) rfl) (by simp)).mono ?_
                rintro _ w5 ⟨rfl, rfl⟩
                go_wp2_with fail
                go_roundw
                case rel => exact ⟨q + 1, max d (1 + e), by omega, by go_num, rfl, HST2, ⟨HBr.out.alloc HBr.out.size _⟩⟩
                case measure => simp [intOf]; omega
              · have e1 : (g.name.toList == x.toList) = false := by rw [toList_beq, decide_eq_false hn]
                have HST2 := Keep.mk (HDP.out.skip HGT.out hn)
                clear hn
                go_wp2_with fail
                go_roundw
                case rel => exact ⟨q + 1, d, by omega, by go_num, rfl, HST2, HBr⟩
                case measure => simp [intOf]; omega
            · obtain rfl : q = k := by omega
              have HDX : Keep (DepthIs c' (names.take (j + 1)) 1 d) := ⟨by
                rw [List.take_add_one, HXN.out, Option.toList_some]
                refine HD.out.append (HM.out.depth HOK.out.1 HCF.out ?_)
                rw [← HM.out.len.1, HL4.out]
                exact HDP.out⟩
              go_wp2_with fail
              go_roundw
              case rel => exact ⟨j + 1, d, by omega, by go_num, rfl, HDX, HBr⟩
              case measure => simp [intOf]; omega
        · obtain rfl : j = names.length := by omega
          have HE : Keep (dd = dep) := ⟨by
            have := HD.out
            rw [List.take_length] at this
            exact this.same HDN.out⟩
          have HN5c : Keep (wr.ownsRow w0.heap.size 3 1 (.slice r5 k d5) k (numCells (dpsOf c))) := ⟨World.ownsRow.kept HN5b.out (grown_none HBr.out) (by cases hq : Value.ownBlock (.slice r5 k d5) <;> simp)⟩
          have HN4c : Keep (wr.ownsRow w0.heap.size 3 1 (.slice a38 (k + 1) c38) (k + 1) (numCells (ndsOf cn))) := ⟨World.ownsRow.kept HN4b.out (grown_none HBr.out) (by cases hq : Value.ownBlock (.slice a38 (k + 1) c38) <;> simp)⟩
          have HBf := Keep.mk (HB39.out.trans (HBr.out.mono HB39.out.size))
          have HWZ : Keep (w0.heap.size ≤ wr.heap.size) := ⟨HBf.out.size⟩
          clear hlj hj
          go_wp2_with (at_builtin; go_must (refine wpList_append_slc rfl _ _ 85 rfl w0.heap.size 3 i0 (.int .i64 0) 1 8 Try.underlying85 hi hz0 hz1 hz2 rfl (by decide) _ k (numCells (dpsOf c)) rfl (World.ownsRow.alloc HN5c.out _) _ 1 [.int .i64 (dd : Int)] rfl (Slc.made (t := 3) [.int .i64 (dd : Int)] (show (1 : Nat) ≤ maxLen by decide) rfl) (by simp [Value.oneCell']) (by unfold maxLen; omega) (by omega) (by simp; have := HWZ.out; omega) ?_); intro v76 w76 ho76 hg76 hv76; have H76 := Keep.mk (And.intro ho76 (And.intro hg76 hv76)); clear ho76 hg76 hv76)
          go_roundw
          case rel => exact ⟨k + 1, cn, by omega, by go_num, HNX2, ⟨⟨World.ownsRow.kept (HN4c.out.alloc _) H76.out.2.1 (by
            cases hq : Value.ownBlock (.slice a38 (k + 1) c38) with
            | none => exact .inl rfl
            | some q => exact .inr (fun e => HOFF.out q hq e.symm)), by
              have := H76.out.1
              rw [HDC.out]
              unfold numCells at *
              rw [List.map_append, ← HE.out]
              exact this, fun q hq he => by
              rcases H76.out.2.2 with h | h
              · exact HOFF.out q hq (h.symm.trans he)
              · rw [h] at he
                cases he
                have := (World.ownsRow.lt HN4c.out _ hq).2
                simp at this
                omega⟩⟩, ⟨(HBf.out.alloc HBf.out.size _).grown H76.out.2.1 (by simp; have := HWZ.out; omega) (fun q hq => HO5.out q hq)⟩⟩
          case measure => simp [intOf]; omega
    · obtain rfl : k = p.funcs.length := by omega
      have HE : Keep (cN = c) := ⟨by
        have := HM.out.run
        rw [List.take_length, HOK.out.2.2.2.2] at this
        cases this
        rfl⟩
      have HS4 := Keep.mk (Slc.of_owns HR.out.nd)
      have HS5 := Keep.mk (Slc.of_owns HR.out.dp)
      go_wp2_with fail
      go_ret2
      exact ⟨_, _, rfl, by rw [HE.out]; exact HS4.out, by rw [HE.out]; exact HS5.out, HB0.out.trans (HB.out.mono HB0.out.size)⟩
end Go.Proofs.Ytgimdbflpdmlmaa
