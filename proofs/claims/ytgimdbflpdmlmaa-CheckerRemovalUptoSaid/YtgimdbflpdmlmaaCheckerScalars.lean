/- CheckerScalars: the scalars of a valid program are distinct, one for each variable, parameter and local. Condition: a program of bulk at most 1048576. -/
import Derived.Test.YtgimdbflpdmlmaaCkSizeP
import Derived.Test.YtgimdbflpdmlmaaCkValid
import Derived.Test.YtgimdbflpdmlmaaCkAlive
import Derived.Test.YtgimdbflpdmlmaaCkOpenP
namespace Go.Proofs.Ytgimdbflpdmlmaa
set_option maxRecDepth 100000
open Go.RowKit Go.Shelf Go.Proofs.Ytgimdbflpdmlmaa.Ck Go.ChangeShapes Go.WideShapes Go.ChangeAt

theorem PrAt.below {w w' : World} {vs rs fs : Value} {p : Pr} (h : PrAt w vs rs fs p) (hb : Below w.heap.size w w') : PrAt w' vs rs fs p :=
  ⟨h.1.below hb (Nat.le_refl _), h.2.1.below hb (Nat.le_refl _), h.2.2.below hb (Nat.le_refl _)⟩
theorem sizeP_bulk {p : Pr} (h : (p.vars.map fun s => s.size + 1).sum + (p.arrays.map fun t => t.1.size + 1).sum + (p.funcs.map fuBulk).sum ≤ 1048576) : sizeP p ≤ 1000000000 := by
  have h1 : eighths p.vars ≤ (p.vars.map fun s : ByteArray => s.size + 1).sum := eighths_le p.vars
  have h2 := (sum_ge p.vars).1
  have h3 : p.arrays.length + eighths (p.arrays.map (·.1)) ≤ (p.arrays.map fun t => t.1.size + 1).sum + (p.arrays.map fun t => t.1.size + 1).sum := by
    generalize p.arrays = l
    induction l with
    | nil => simp [eighths]
    | cons x l ih =>
      unfold eighths at ih ⊢
      simp only [List.length_cons, List.map_cons, List.sum_cons]
      omega
  have h4 : (p.funcs.map fuSz).sum ≤ 3 * (p.funcs.map fuBulk).sum := by
    generalize p.funcs = l
    induction l with
    | nil => simp
    | cons f l ih =>
      simp only [List.map_cons, List.sum_cons]
      have e1 : fuSz f = 1 + f.name.size / 8 + f.params.length + f.locals.length + szS f.body + eighths (f.params ++ f.locals) := rfl
      have e2 : fuBulk f = f.name.size + (f.params.map fun s => s.size + 1).sum + (f.locals.map fun s => s.size + 1).sum + szS f.body + 1 := rfl
      have e3 := eighths_append f.params f.locals
      have e4 : eighths f.params ≤ (f.params.map fun s : ByteArray => s.size + 1).sum := eighths_le f.params
      have e5 : eighths f.locals ≤ (f.locals.map fun s : ByteArray => s.size + 1).sum := eighths_le f.locals
      have e6 := (sum_ge f.params).1
      have e7 := (sum_ge f.locals).1
      omega
  unfold sizeP
  omega
theorem fu_lengths (l : List Fu) (k : Nat) : (((l.take k).map fun f => f.params.length + f.locals.length).sum : Nat) ≤ (l.map fun f => f.params.length + f.locals.length).sum := fsum_take l _ k
theorem scalarsN_size {p : Pr} : scalarsN p ≤ sizeP p := by
  have : (p.funcs.map fun f => f.params.length + f.locals.length).sum ≤ (p.funcs.map fuSz).sum := by
    generalize p.funcs = l
    induction l with
    | nil => simp
    | cons f l ih =>
      simp only [List.map_cons, List.sum_cons]
      have e1 : fuSz f = 1 + f.name.size / 8 + f.params.length + f.locals.length + szS f.body + eighths (f.params ++ f.locals) := rfl
      omega
  unfold scalarsN sizeP
  omega
set_option maxHeartbeats 16000000 in
theorem checkerScalars_any {w : World} {vs rs fs : Value} {p : Pr} (hp : PrAt w vs rs fs p) (hz : sizeP p ≤ 1000000000) :
    Calls Try.prog 4 #[.agg #[vs, rs, fs]] w fun e w' => e = .returned (.bool true) ∧ Below w.heap.size w w' := by
  have HP := Keep.mk hp
  obtain ⟨h1, h2, h3⟩ := hp
  obtain ⟨a1, c1, rfl, k1, k2⟩ := h1.len
  obtain ⟨a2, c2, rfl, k3, k4⟩ := h2.len
  obtain ⟨a3, c3, rfl, k5, k6⟩ := h3.len
  unfold maxLen at k2 k4 k6
  have H3 := Keep.mk h3
  have HZ := Keep.mk hz
  have hsn := scalarsN_size (p := p)
  clear h1 h2 h3 hz
  go_enter Try.func4, Try.ntmps4
  have hba : Below w.heap.size w (w.alloc (.cells #[.slice a1 p.vars.length c1, .slice a2 p.arrays.length c2, .slice a3 p.funcs.length c3] 26)) := (Below.refl _ _).alloc (Nat.le_refl _) _
  have HX : (w.alloc (.cells #[.slice a1 p.vars.length c1, .slice a2 p.arrays.length c2, .slice a3 p.funcs.length c3] 26)).heap[w.heap.size]? = some (.cells #[.slice a1 p.vars.length c1, .slice a2 p.arrays.length c2, .slice a3 p.funcs.length c3] 26 (0, 0)) := heap_alloc_new w _
  have HBa := Keep.mk hba
  have HXa := Keep.mk HX
  clear hba HX
  go_wp2_with fail
  refine (alive_any _).mono ?_
  rintro _ w1 ⟨rfl, hb1⟩
  have HB1 := Keep.mk (HBa.out.trans (hb1.mono HBa.out.size))
  have HX1 := Keep.mk ((hb1.block w.heap.size (by simp)).trans HXa.out)
  clear hb1 HBa HXa
  have HSz := Keep.mk (sizeP_any (HP.out.below HB1.out) HZ.out)
  have p0 : w1.cell? ⟨w.heap.size, 0, none⟩ = some (.slice a1 p.vars.length c1) := by simp [World.cell?, HX1.out]
  have p1 : w1.cell? ⟨w.heap.size, 1, none⟩ = some (.slice a2 p.arrays.length c2) := by simp [World.cell?, HX1.out]
  have p2 : w1.cell? ⟨w.heap.size, 2, none⟩ = some (.slice a3 p.funcs.length c3) := by simp [World.cell?, HX1.out]
  have pl : w.heap.size < w1.heap.size := (Array.getElem?_eq_some_iff.1 HX1.out).1
  go_wp2_with fail
  refine HSz.out.mono ?_
  rintro _ w2 ⟨rfl, hb2⟩
  have HB2 := Keep.mk (HB1.out.trans (hb2.mono HB1.out.size))
  have HX2 := Keep.mk ((hb2.block w.heap.size pl).trans HX1.out)
  clear hb2 HB1 HX1 HSz p0 p1 p2 pl
  by_cases h4 : sizeP p ≤ 400
  · have hq : ¬ (400 : Int) < (sizeP p : Int) := by omega
    have HF := Keep.mk (fits_of_size h4)
    have hsn4 : scalarsN p ≤ 400 := by omega
    clear h4 hsn
    generalize sizeP p = sp at *
    have HSc := Keep.mk (scalars_any (HP.out.below HB2.out) HF.out)
    have p0 : w2.cell? ⟨w.heap.size, 0, none⟩ = some (.slice a1 p.vars.length c1) := by simp [World.cell?, HX2.out]
    have p1 : w2.cell? ⟨w.heap.size, 1, none⟩ = some (.slice a2 p.arrays.length c2) := by simp [World.cell?, HX2.out]
    have p2 : w2.cell? ⟨w.heap.size, 2, none⟩ = some (.slice a3 p.funcs.length c3) := by simp [World.cell?, HX2.out]
    have pl : w.heap.size < w2.heap.size := (Array.getElem?_eq_some_iff.1 HX2.out).1
    go_wp2_with fail
    refine HSc.out.mono ?_
    rintro e w3 ⟨v3, rfl, hv3, hb3⟩
    have HB3 := Keep.mk (HB2.out.trans (hb3.mono HB2.out.size))
    have HX3 := Keep.mk ((hb3.block w.heap.size pl).trans HX2.out)
    obtain ⟨sa, sc, rfl⟩ := ownsRow_slice hv3
    have HST := Keep.mk hv3.strs
    have hsl : (scalarsL p).length = scalarsN p := scalarsL_length p
    clear hv3 hb3 HB2 HX2 HSc p0 p1 p2 pl
    have p0 : w3.cell? ⟨w.heap.size, 0, none⟩ = some (.slice a1 p.vars.length c1) := by simp [World.cell?, HX3.out]
    have p2 : w3.cell? ⟨w.heap.size, 2, none⟩ = some (.slice a3 p.funcs.length c3) := by simp [World.cell?, HX3.out]
    have pl : w.heap.size < w3.heap.size := (Array.getElem?_eq_some_iff.1 HX3.out).1
    rw [hsl]
    rw [hsl] at HST
    have HSN : Keep (scalarsN p = p.vars.length + (p.funcs.map fun f => f.params.length + f.locals.length).sum) := ⟨rfl⟩
    have HSL := Keep.mk hsl
    clear hsl
    generalize scalarsN p = sn at *
    go_wp2_with fail
    clear p0 p2 pl
    go_loopw [25, 4] (fun i s wr => ∃ k : Nat, k ≤ p.funcs.length ∧ i = .int .i64 k ∧ s = .int .i64 ((p.vars.length + ((p.funcs.take k).map fun f => f.params.length + f.locals.length).sum : Nat) : Int) ∧ Keep (wr.heap[w.heap.size]? = some (.cells #[.slice a1 p.vars.length c1, .slice a2 p.arrays.length c2, .slice a3 p.funcs.length c3] 26 (0, 0))) ∧ Keep (Below w.heap.size w wr) ∧ Keep (Strs wr (.slice sa sn sc) (scalarsL p))) (fun i _ _ => p.funcs.length - (intOf i).toNat)
    case atStart => exact ⟨0, Nat.zero_le _, rfl, by rw [List.take_zero]; simp, HX3, HB3, HST⟩
    case round =>
      obtain ⟨k, hk, rfl, rfl, HXr, HBr, HSr⟩ := hrel
      clear HX3 HB3 HST
      by_cases hlt : k < p.funcs.length
      · have k0 : (0 : Int) ≤ k := by omega
        have k1' : (k : Int) < p.funcs.length := by omega
        obtain ⟨f, hfk⟩ : ∃ f, p.funcs[k]? = some f := ⟨_, List.getElem?_eq_getElem hlt⟩
        obtain ⟨b, o, cap, up, ul, ub, hv, hb, x0, x1, x2, x3, hS1, hS2, nb, hS3⟩ := H3.out.get hfk
        simp only [Value.slice.injEq, true_and] at hv
        obtain ⟨rfl, rfl⟩ := hv
        have z0 := (HBr.out.cell (p := ⟨b, o + k * 4, none⟩) hb).trans x0
        have z1 := (HBr.out.cell (p := ⟨b, o + k * 4 + 1, none⟩) hb).trans x1
        have z2 := (HBr.out.cell (p := ⟨b, o + k * 4 + 2, none⟩) hb).trans x2
        have z3 := (HBr.out.cell (p := ⟨b, o + k * 4 + 3, none⟩) hb).trans x3
        have hbl : b < wr.heap.size := Nat.lt_of_lt_of_le hb HBr.out.size
        obtain ⟨b1, d1, rfl, _, _⟩ := hS1.len
        obtain ⟨b2, d2, rfl, _, _⟩ := hS2.len
        obtain ⟨b3, d3, rfl, _, _⟩ := hS3.len
        have hst := fsum_step (g := fun f => f.params.length + f.locals.length) hfk
        have htk := fu_lengths p.funcs (k + 1)
        have hbd : p.vars.length + ((p.funcs.take k).map fun f => f.params.length + f.locals.length).sum + (f.params.length + f.locals.length) ≤ 400 := by have := HSN.out; omega
        have HEQ : Keep (p.vars.length + ((p.funcs.take k).map fun f => f.params.length + f.locals.length).sum + (f.params.length + f.locals.length) = p.vars.length + ((p.funcs.take (k + 1)).map fun f => f.params.length + f.locals.length).sum) := ⟨by omega⟩
        have hbz : Below wr.heap.size wr (wr.alloc (.cells #[.string f.name, .slice b1 f.params.length d1, .slice b2 f.locals.length d2, .slice b3 f.body.length d3] 36)) := (Below.refl _ _).alloc (Nat.le_refl _) _
        have HBz := Keep.mk (HBr.out.trans (hbz.mono HBr.out.size))
        have HXz := Keep.mk ((hbz.block w.heap.size (Array.getElem?_eq_some_iff.1 HXr.out).1).trans HXr.out)
        have HSz := Keep.mk (HSr.out.below hbz (Nat.le_refl _))
        clear x0 x1 x2 x3 hS1 hS2 hS3 hst htk hfk hbz
        generalize p.vars.length + ((p.funcs.take k).map fun f => f.params.length + f.locals.length).sum = acc at *
        go_wp2_with fail
        go_roundw
        case rel => exact ⟨k + 1, by omega, by go_num, by rw [← HEQ.out]; go_num, HXz, HBz, HSz⟩
        case measure => simp [intOf]; omega
      · have hka : k = p.funcs.length := by omega
        subst hka
        rw [List.take_length, ← HSN.out]
        clear HSN hlt hk
        generalize p.vars.length = vl at *
        generalize p.arrays.length = al at *
        generalize p.funcs.length = fl at *
        have HCk := Keep.mk (check_any (HP.out.below HBr.out) HF.out)
        have p0 : wr.cell? ⟨w.heap.size, 0, none⟩ = some (.slice a1 vl c1) := by simp [World.cell?, HXr.out]
        have p1 : wr.cell? ⟨w.heap.size, 1, none⟩ = some (.slice a2 al c2) := by simp [World.cell?, HXr.out]
        have p2 : wr.cell? ⟨w.heap.size, 2, none⟩ = some (.slice a3 fl c3) := by simp [World.cell?, HXr.out]
        have pl : w.heap.size < wr.heap.size := (Array.getElem?_eq_some_iff.1 HXr.out).1
        have HDI := Keep.mk (fun h => scalars_distinct (p := p) h)
        go_wp2_with fail
        refine HCk.out.mono ?_
        rintro _ w5 ⟨rfl, hb5⟩
        have HB5 := Keep.mk (HBr.out.trans (hb5.mono HBr.out.size))
        have HS5 := Keep.mk (HSr.out.below hb5 (Nat.le_refl _))
        clear hb5 HBr HXr HSr p0 p1 p2 pl HCk
        by_cases he : (check p).2 = 0
        · have HND := Keep.mk (HDI.out he)
          have hq2 : ((check p).2 != 0) = false := by simp [he]
          clear he HDI
          generalize (check p).2 = ce at *
          generalize (check p).1 = cn at *
          generalize scalarsL p = S at *
          have hmm := @run_makeMap Try.prog
          go_wp2_with fail
          clear hmm
          have HM0 : Keep (SetL (w5.alloc (.map #[] 0)) w5.heap.size []) := ⟨[], MapIs.made SK w5, fun _ => rfl⟩
          have hb6 : Below w5.heap.size w5 (w5.alloc (.map #[] 0)) := (Below.refl _ _).alloc (Nat.le_refl _) _
          have HB6 := Keep.mk hb6
          clear hb6
          go_loopw [53] (fun i wr => ∃ k : Nat, k ≤ sn ∧ i = .int .i64 k ∧ Keep (SetL wr w5.heap.size (S.take k)) ∧ Keep (Below w5.heap.size w5 wr)) (fun i _ => sn - (intOf i).toNat)
          case atStart => exact ⟨0, Nat.zero_le _, rfl, by rw [List.take_zero]; exact HM0, HB6⟩
          case round =>
            obtain ⟨k, hk, rfl, HMr, HBr⟩ := hrel
            clear HM0 HB6
            by_cases hlt : k < sn
            · have k0 : (0 : Int) ≤ k := by omega
              have k1' : (k : Int) < sn := by omega
              obtain ⟨x, hxk⟩ : ∃ x, S[k]? = some x := ⟨_, List.getElem?_eq_getElem (by rw [HSL.out]; exact hlt)⟩
              obtain ⟨b, o, cap, hv, hb, z0⟩ := (HS5.out.below HBr.out (Nat.le_refl _)).get hxk
              simp only [Value.slice.injEq] at hv
              obtain ⟨rfl, -, -⟩ := hv
              have hnm : x ∉ S.take k := fun hm => by
                have h := List.nodup_append.1 (show (S.take k ++ S.drop k).Nodup by rw [List.take_append_drop]; exact HND.out)
                refine h.2.2 x hm x ?_ rfl
                refine List.mem_of_getElem? (i := 0) ?_
                rw [List.getElem?_drop, Nat.add_zero]; exact hxk
              have hlk := HMr.out.look x
              rw [decide_eq_false hnm] at hlk
              have HNX : Keep (S.take (k + 1) = S.take k ++ [x]) := ⟨by rw [List.take_add_one, hxk]; rfl⟩
              obtain ⟨m, hm1, hm2⟩ := HMr.out
              have HM1 := Keep.mk hm1
              have HM2 := Keep.mk hm2
              clear hxk hnm hm1 hm2
              go_wp2_with (at_mapUpdate; go_must (refine wpList_store (K := SK) rfl _ _ _ _ rfl Try.underlying37 rfl HM1.out x rfl ?_); intro w7 hM7 hg7; have H7 := Keep.mk (And.intro hM7 hg7); clear hM7 hg7)
              have HB7 := Keep.mk (HBr.out.grown H7.out.2 HBr.out.size (fun j hj => by cases hj; exact Nat.le_refl _))
              go_roundw
              case rel => exact ⟨k + 1, by omega, by go_num, ⟨by rw [HNX.out]; exact SetL.put HM2.out H7.out.1⟩, HB7⟩
              case measure => simp [intOf]; omega
            · have hka : k = sn := by omega
              subst hka
              have HBf := Keep.mk (HB5.out.trans (HBr.out.mono HB5.out.size))
              go_wp2_with fail
              go_ret
              exact ⟨rfl, HBf.out⟩
        · have hq2 : ((check p).2 != 0) = true := by simp [he]
          clear he HDI
          generalize (check p).2 = ce at *
          generalize (check p).1 = cn at *
          go_wp2_with fail
          go_ret
          exact ⟨rfl, HB5.out⟩
  · have hq : (400 : Int) < (sizeP p : Int) := by omega
    go_wp2_with fail
    go_ret
    exact ⟨rfl, HB2.out⟩

theorem CheckerScalars_walk : LawWalkU 4 Try.f4 := by
  intro H enc W base args ds ps hval hA hsz hk _
  rw [Try.params4] at hA hval hsz
  obtain ⟨v0, vs0, d0, ds0, p0, q0, hargs, rfl, rfl, h0, r0⟩ := trodAll_cons hA
  obtain ⟨rfl, rfl, rfl⟩ := trodAll_nil r0
  obtain rfl : args = #[v0] := by cases args; simp_all
  obtain ⟨vs, rs, fs, p, rfl, hp, _, hb⟩ := open_prog (hval 0 26 v0 rfl rfl) h0 (bulk_each hk (by simp))
  exact checkerScalars_any hp (sizeP_bulk hb)
end Go.Proofs.Ytgimdbflpdmlmaa
namespace Go.Proofs.Ytgimdbflpdmlmaa
open Go.ChangeShapes Go.WideShapes Go.ChangeAt Go.RowKit
set_option maxRecDepth 100000 in
theorem CheckerScalars_lifted (os : Os) (started : os.Started) (H : Type) (enc : TypeId × Value → H) (F : Stop.Interp) :
    ReturnsInHanded {} Try.checked os 4 .any ((Rows.OpenSpec.upto Rows.checkerScalarsSpec).pre6 enc Try.prog Try.f4 Rows.checkerScalarsUptoRow.domain false) (((Rows.OpenSpec.upto Rows.checkerScalarsSpec).at F).post enc Try.prog Try.f4 false true false false) := by
  refine returns_upto (C := Try.checked) (s := Rows.OpenSpec.upto Rows.checkerScalarsSpec) (k := Rows.uptoSmall) rfl own started (by kernel_rfl) Try.func4
    (OpenSpec.witness (enc := enc) (C := Try.checked) (s := Rows.OpenSpec.upto Rows.checkerScalarsSpec) (k := Rows.uptoSmall) rfl false ⟨#[], #[.agg #[.slice none 0 0, .slice none 0 0, .slice none 0 0]], []⟩ 8 (by kernel_rfl) (by kernel_rfl) (by kernel_rfl)
      (x := ([.agg [.nil, .nil, .nil]], [], [])) (by kernel_rfl) rfl (by kernel_rfl)) ?_
  intro W base args ds gs before hval hW hk hsz hsh
  exact law_contract_upto (s := Rows.checkerScalarsSpec) (by kernel_rfl) (by kernel_rfl) ⟨rfl, fun H ds h => by rw [Try.params4] at h; match ds, h with | [d0], _ => rfl⟩ CheckerScalars_walk W base args ds gs before hval hW hk hsz hsh
theorem CheckerScalars_proved : Rows.CheckerScalarsUptoSaid :=
  OpenClaim.holds_of_cond 4 Try.f4 rfl rfl rfl rfl rfl rfl rfl ⟨rfl, rfl, rfl, rfl, rfl⟩ rfl rfl rfl rfl rfl (by kernel_rfl) Try.func4 (by kernel_rfl)
    (of_decide_eq_true (by kernel_rfl)) (by unfold Func.isWrapper; first | (rw [if_pos (by decide +kernel)]; kernel_rfl) | (rw [if_neg (by decide +kernel)]; exact ⟨rfl, rfl⟩))
    (fun os started H enc _ F => CheckerScalars_lifted os started H enc F)
end Go.Proofs.Ytgimdbflpdmlmaa
