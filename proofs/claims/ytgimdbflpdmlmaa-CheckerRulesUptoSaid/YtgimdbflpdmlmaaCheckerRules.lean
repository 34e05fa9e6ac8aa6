/- CheckerRules: Check agrees with the reference implementation. Condition: a program of bulk at most 1048576. -/
import Derived.Test.YtgimdbflpdmlmaaRuCheck
import Derived.Test.YtgimdbflpdmlmaaCkCheck
import Derived.Test.YtgimdbflpdmlmaaCkAlive
import Derived.Test.YtgimdbflpdmlmaaCkOpenP
import Derived.Test.YtgimdbflpdmlmaaLawUpto
namespace Go.Proofs.Ytgimdbflpdmlmaa
set_option maxRecDepth 100000
open Go.RowKit Go.Shelf Go.Proofs.Ytgimdbflpdmlmaa.Ck Go.ChangeShapes Go.WideShapes Go.ChangeAt

theorem sizeP_bulk {p : Pr} (h : (p.vars.map fun s => s.size + 1).sum + (p.arrays.map fun t => t.1.size + 1).sum + (p.funcs.map fuBulk).sum ≤ 1048576) : sizeP p ≤ 1000000000 := by
  have h1 : eighths p.vars ≤ (p.vars.map fun s : ByteArray => s.size + 1).sum := eighths_le p.vars
  have h2 := (sum_ge p.vars).1
  have h3 : p.arrays.length + eighths (p.arrays.map (·.1)) ≤ (p.arrays.map fun t => t.1.size + 1).sum + (p.arrays.map fun t => t.1.size + 1).sum := by
    generalize p.arrays = l
    induction l with
    | nil => simp [eighths]
    | cons x l ih =>
      unfold eighths at ih ⊢
      simp only [List.length_cons, List.map_cons, List.sum_cons]
      omega
  have h4 : (p.funcs.map fuSz).sum ≤ 3 * (p.funcs.map fuBulk).sum := by
    generalize p.funcs = l
    induction l with
    | nil => simp
    | cons f l ih =>
      simp only [List.map_cons, List.sum_cons]
      have e1 : fuSz f = 1 + f.name.size / 8 + f.params.length + f.locals.length + szS f.body + eighths (f.params ++ f.locals) := rfl
      have e2 : fuBulk f = f.name.size + (f.params.map fun s => s.size + 1).sum + (f.locals.map fun s => s.size + 1).sum + szS f.body + 1 := rfl
      have e3 := eighths_append f.params f.locals
      have e4 : eighths f.params ≤ (f.params.map fun s : ByteArray => s.size + 1).sum := eighths_le f.params
      have e5 : eighths f.locals ≤ (f.locals.map fun s : ByteArray => s.size + 1).sum := eighths_le f.locals
      have e6 := (sum_ge f.params).1
      have e7 := (sum_ge f.locals).1
      omega
  unfold sizeP
  omega
set_option maxHeartbeats 16000000 in
theorem checkerRules_any {w : World} {vs rs fs : Value} {p : Pr} (hp : PrAt w vs rs fs p) (hz : sizeP p ≤ 1000000000) :
    Calls Try.prog 3 #[.agg #[vs, rs, fs]] w fun e w' => e = .returned (.bool true) ∧ Below w.heap.size w w' := by
  have HP := Keep.mk hp
  obtain ⟨h1, h2, h3⟩ := hp
  obtain ⟨a1, c1, rfl, k1, k2⟩ := h1.len
  obtain ⟨a2, c2, rfl, k3, k4⟩ := h2.len
  obtain ⟨a3, c3, rfl, k5, k6⟩ := h3.len
  unfold maxLen at k2 k4 k6
  have HZ := Keep.mk hz
  clear h1 h2 h3 hz
  go_enter Try.func3, Try.ntmps3
  have hba : Below w.heap.size w (w.alloc (.cells #[.slice a1 p.vars.length c1, .slice a2 p.arrays.length c2, .slice a3 p.funcs.length c3] 26)) := (Below.refl _ _).alloc (Nat.le_refl _) _
  have HX : (w.alloc (.cells #[.slice a1 p.vars.length c1, .slice a2 p.arrays.length c2, .slice a3 p.funcs.length c3] 26)).heap[w.heap.size]? = some (.cells #[.slice a1 p.vars.length c1, .slice a2 p.arrays.length c2, .slice a3 p.funcs.length c3] 26 (0, 0)) := heap_alloc_new w _
  have HBa := Keep.mk hba
  have HXa := Keep.mk HX
  clear hba HX
  go_wp2_with fail
  refine (alive_any _).mono ?_
  rintro _ w1 ⟨rfl, hb1⟩
  have HB1 := Keep.mk (HBa.out.trans (hb1.mono HBa.out.size))
  have HX1 := Keep.mk ((hb1.block w.heap.size (by simp)).trans HXa.out)
  clear hb1 HBa HXa
  have HSz := Keep.mk (sizeP_any (HP.out.belowR HB1.out) HZ.out)
  have p0 : w1.cell? ⟨w.heap.size, 0, none⟩ = some (.slice a1 p.vars.length c1) := by simp [World.cell?, HX1.out]
  have p1 : w1.cell? ⟨w.heap.size, 1, none⟩ = some (.slice a2 p.arrays.length c2) := by simp [World.cell?, HX1.out]
  have p2 : w1.cell? ⟨w.heap.size, 2, none⟩ = some (.slice a3 p.funcs.length c3) := by simp [World.cell?, HX1.out]
  have pl : w.heap.size < w1.heap.size := (Array.getElem?_eq_some_iff.1 HX1.out).1
  go_wp2_with fail
  refine HSz.out.mono ?_
  rintro _ w2 ⟨rfl, hb2⟩
  have HB2 := Keep.mk (HB1.out.trans (hb2.mono HB1.out.size))
  have HX2 := Keep.mk ((hb2.block w.heap.size pl).trans HX1.out)
  clear hb2 HB1 HX1 HSz p0 p1 p2 pl
  by_cases h4 : sizeP p ≤ 400
  · have hq : ¬ (400 : Int) < (sizeP p : Int) := by omega
    have H4 := Keep.mk h4
    have HC := Keep.mk (check_any (HP.out.belowR HB2.out) (fits_of_size h4))
    clear h4
    generalize sizeP p = sp at hq ⊢
    have p0 : w2.cell? ⟨w.heap.size, 0, none⟩ = some (.slice a1 p.vars.length c1) := by simp [World.cell?, HX2.out]
    have p1 : w2.cell? ⟨w.heap.size, 1, none⟩ = some (.slice a2 p.arrays.length c2) := by simp [World.cell?, HX2.out]
    have p2 : w2.cell? ⟨w.heap.size, 2, none⟩ = some (.slice a3 p.funcs.length c3) := by simp [World.cell?, HX2.out]
    have pl : w.heap.size < w2.heap.size := (Array.getElem?_eq_some_iff.1 HX2.out).1
    go_wp2_with fail
    refine HC.out.mono ?_
    rintro _ w3 ⟨rfl, hb3⟩
    have HB3 := Keep.mk (HB2.out.trans (hb3.mono HB2.out.size))
    have HX3 := Keep.mk ((hb3.block w.heap.size pl).trans HX2.out)
    clear hb3 HB2 HX2 HC p0 p1 p2 pl
    have HC := Keep.mk (rcheck_any (HP.out.belowR HB3.out) H4.out)
    have p0 : w3.cell? ⟨w.heap.size, 0, none⟩ = some (.slice a1 p.vars.length c1) := by simp [World.cell?, HX3.out]
    have p1 : w3.cell? ⟨w.heap.size, 1, none⟩ = some (.slice a2 p.arrays.length c2) := by simp [World.cell?, HX3.out]
    have p2 : w3.cell? ⟨w.heap.size, 2, none⟩ = some (.slice a3 p.funcs.length c3) := by simp [World.cell?, HX3.out]
    have pl : w.heap.size < w3.heap.size := (Array.getElem?_eq_some_iff.1 HX3.out).1
    generalize (check p).1 = x at *
    generalize (check p).2 = y at *
    go_wp2_with fail
    refine HC.out.mono ?_
    rintro _ w4 ⟨rfl, hb4⟩
    have HB4 := Keep.mk (HB3.out.trans (hb4.mono HB3.out.size))
    clear hb4 p0 p1 p2 pl HX3 HB3 HC
    have e1 : (x.toList == x.toList) = true := by simp
    have e2 : (y == y) = true := by simp
    go_wp2_with fail
    go_ret
    exact ⟨rfl, HB4.out⟩
  · have hq : (400 : Int) < (sizeP p : Int) := by omega
    go_wp2_with fail
    go_ret
    exact ⟨rfl, HB2.out⟩

theorem CheckerRules_walk : LawWalkU 3 Try.f3 := by
  intro H enc W base args ds ps hval hA hsz hk _
  rw [Try.params3] at hA hval hsz
  obtain ⟨v0, vs0, d0, ds0, p0, q0, hargs, rfl, rfl, h0, r0⟩ := trodAll_cons hA
  obtain ⟨rfl, rfl, rfl⟩ := trodAll_nil r0
  obtain rfl : args = #[v0] := by cases args; simp_all
  obtain ⟨vs, rs, fs, p, rfl, hp, _, hb⟩ := open_prog (hval 0 26 v0 rfl rfl) h0 (bulk_each hk (by simp))
  exact checkerRules_any hp (sizeP_bulk hb)
end Go.Proofs.Ytgimdbflpdmlmaa
namespace Go.Proofs.Ytgimdbflpdmlmaa
open Go.ChangeShapes Go.WideShapes Go.ChangeAt Go.RowKit
set_option maxRecDepth 100000 in
theorem CheckerRules_lifted (os : Os) (started : os.Started) (H : Type) (enc : TypeId × Value → H) (F : Stop.Interp) :
    ReturnsInHanded {} Try.checked os 3 .any ((Rows.OpenSpec.upto Rows.checkerRulesSpec).pre6 enc Try.prog Try.f3 Rows.checkerRulesUptoRow.domain false) (((Rows.OpenSpec.upto Rows.checkerRulesSpec).at F).post enc Try.prog Try.f3 false true false false) := by
  refine returns_upto (C := Try.checked) (s := Rows.OpenSpec.upto Rows.checkerRulesSpec) (k := Rows.uptoSmall) rfl own started (by kernel_rfl) Try.func3
    (OpenSpec.witness (enc := enc) (C := Try.checked) (s := Rows.OpenSpec.upto Rows.checkerRulesSpec) (k := Rows.uptoSmall) rfl false ⟨#[], #[.agg #[.slice none 0 0, .slice none 0 0, .slice none 0 0]], []⟩ 8 (by kernel_rfl) (by kernel_rfl) (by kernel_rfl)
      (x := ([.agg [.nil, .nil, .nil]], [], [])) (by kernel_rfl) rfl (by kernel_rfl)) ?_
  intro W base args ds gs before hval hW hk hsz hsh
  exact law_contract_upto (s := Rows.checkerRulesSpec) (by kernel_rfl) (by kernel_rfl) ⟨rfl, fun H ds h => by rw [Try.params3] at h; match ds, h with | [d0], _ => rfl⟩ CheckerRules_walk W base args ds gs before hval hW hk hsz hsh
theorem CheckerRules_proved : Rows.CheckerRulesUptoSaid :=
  OpenClaim.holds_of_cond 3 Try.f3 rfl rfl rfl rfl rfl rfl rfl ⟨rfl, rfl, rfl, rfl, rfl⟩ rfl rfl rfl rfl rfl (by kernel_rfl) Try.func3 (by kernel_rfl)
    (of_decide_eq_true (by kernel_rfl)) (by unfold Func.isWrapper; first | (rw [if_pos (by decide +kernel)]; kernel_rfl) | (rw [if_neg (by decide +kernel)]; exact ⟨rfl, rfl⟩))
    (fun os started H enc _ F => CheckerRules_lifted os started H enc F)
end Go.Proofs.Ytgimdbflpdmlmaa
