/- bootstrap.Start, bootstrap.Boot. Conditions: bounds on lengths; Boot: every piece is a strip or holds no frame; the table of powers of ten lies. -/
import Derived.Test.YtojgopbaiflfgaaGreatDoorTpInput
import Derived.Test.YtojgopbaiflfgaaGreatDoorTpRunBig
import Derived.Test.YtojgopbaiflfgaaGreatDoorTpLoad
namespace Go.Proofs.YtojgopbaiflfgaaGreatDoor
set_option maxRecDepth 100000
open Go.RowKit Go.Shelf Go.Proofs.YtojgopbaiflfgaaGreatDoor.B2

abbrev outV (r : List UInt8 × Nat × Nat) : Value := .agg #[.string (mkS r.1), .int .i64 (r.2.1 : Int), .int .i64 (r.2.2 : Int)]
theorem row_len {w : World} {base n : Nat} {v : Value} {inp : List W} (h : w.ownsRow base 29 1 v n (wvs inp)) : n = inp.length := by
  have := h.1
  simp [wvs] at this
  exact this.symm
theorem row_lt {w : World} {base n : Nat} {e : TypeId} {v : Value} {xs : List Value} (h : w.ownsRow base e 1 v n xs) : ∀ k, v.ownBlock = some k → k < w.heap.size := fun _ hr => by
  obtain ⟨cur, h1, _⟩ := row_block h hr
  exact (Array.getElem?_eq_some_iff.1 h1).1
set_option maxHeartbeats 4000000 in
theorem start_any {w : World} {v : Value} (T : ByteArray) (l : List ByteArray) (arch : W) (f : Nat) (hv : Strs w v l) (hl : l.length ≤ 1000) (hp : ∀ p ∈ l, p.size ≤ 4000) (hT : T.size ≤ 1000) (hf : f ≤ 1000000) (hf0 : 0 < f) :
    Calls Tryz.prog 19 #[.string T, v, .int .u32 (W32 arch), .int .i64 f] w fun e w' => e = .returned (outV (runT T (inputL arch l) f)) ∧ Below w.heap.size w w' := by
  have hO := heap_alloc_new w (.cells #[.string ⟨#[]⟩, .int .i64 0, .int .i64 0] 35)
  have hb1 : Below w.heap.size w (w.alloc (.cells #[.string ⟨#[]⟩, .int .i64 0, .int .i64 0] 35)) := (Below.refl _ _).alloc (Nat.le_refl _) _
  have HV := Keep.mk hv
  obtain ⟨va, vc, rfl, hv1, hv2, hv3⟩ := hv
  clear hv3
  go_enter Tryz.func19, Tryz.ntmps19
  go_upto_region 1 with (fail)
  have HO := Keep.mk hO
  have HB1 := Keep.mk hb1
  clear hO hb1
  obtain ⟨O, hOE⟩ : ∃ O, O = w.heap.size := ⟨_, rfl⟩
  have HOE := Keep.mk hOE
  generalize (w.alloc (.cells #[.string ⟨#[]⟩, .int .i64 0, .int .i64 0] 35)) = w1 at *
  rw [← hOE] at HO ⊢
  clear hOE
  have hx := heap_alloc_new w1 (.cells #[.int .i64 10000, .string T] 42)
  have hb2 : Below w1.heap.size w1 (w1.alloc (.cells #[.int .i64 10000, .string T] 42)) := (Below.refl _ _).alloc (Nat.le_refl _) _
  have HS2 : Keep (Slc (w1.alloc (.cells #[.int .i64 10000, .string T] 42)) 2 (.slice (some ⟨w1.heap.size, 0, none⟩) 1 1) 1 [.int .i64 10000, .string T]) := ⟨slc_made (t := 42) [.int .i64 10000, .string T] (by decide) rfl⟩
  have HB2 := Keep.mk (HB1.out.trans (hb2.mono HB1.out.size))
  have HO2 := Keep.mk ((hb2.block O (Array.getElem?_eq_some_iff.1 HO.out).1).trans HO.out)
  clear hx hb2 HO HB1
  go_wp2_with fail
  generalize (w1.alloc (.cells #[.int .i64 10000, .string T] 42)) = w2 at *
  generalize w1.heap.size = X at *
  have hol := (Array.getElem?_eq_some_iff.1 HO2.out).1
  have HOL := Keep.mk hol
  clear hol
  refine (input_any l arch (HV.out.below HB2.out (Nat.le_refl _)) hl hp).mono ?_
  rintro _ w3 ⟨iv, n, rfl, hown, hb3⟩
  have HN := Keep.mk (row_len hown)
  have HLT := Keep.mk (row_lt hown)
  have HI := Keep.mk (Slc.of_owns hown)
  have HS3 := Keep.mk (HS2.out.below hb3 (Nat.le_refl _))
  have HB3 := Keep.mk (HB2.out.trans (hb3.mono HB2.out.size))
  have HO3 := Keep.mk ((hb3.block O HOL.out).trans HO2.out)
  clear hown hb3 HS2 HB2 HO2 HOL
  go_wp2_with fail
  refine (runBig_any T (inputL arch l) f HS3.out (by rw [← HN.out]; exact HI.out) HLT.out hT hf hf0).mono ?_
  rintro _ w4 ⟨rfl, hb4⟩
  have HB4 := Keep.mk (HB3.out.trans (hb4.mono HB3.out.size))
  have HO4 := Keep.mk ((hb4.block O (Array.getElem?_eq_some_iff.1 HO3.out).1).trans HO3.out)
  clear hb4 HO3 HB3 HS3 HI HLT HN
  obtain ⟨r, hr⟩ : ∃ r, r = runT T (inputL arch l) f := ⟨_, rfl⟩
  rw [← hr]
  have HR := Keep.mk hr
  clear hr
  have o0 : w4.cell? ⟨O, 0, none⟩ = some (.string ⟨#[]⟩) := by simp [World.cell?, HO4.out]
  have o1 : w4.cell? ⟨O, 1, none⟩ = some (.int .i64 0) := by simp [World.cell?, HO4.out]
  have o2 : w4.cell? ⟨O, 2, none⟩ = some (.int .i64 0) := by simp [World.cell?, HO4.out]
  have z0 : w4.frozen? ⟨O, 0, none⟩ = false := by simp [World.frozen?, HO4.out]
  have z1 : w4.frozen? ⟨O, 1, none⟩ = false := by simp [World.frozen?, HO4.out]
  have z2 : w4.frozen? ⟨O, 2, none⟩ = false := by simp [World.frozen?, HO4.out]
  have zl : O < w4.heap.size := (Array.getElem?_eq_some_iff.1 HO4.out).1
  go_wp2_with fail
  have h1 := heap_setCell_same w4 O 0 _ _ (.string (mkS r.1)) HO4.out
  have h2 := heap_setCell_same _ O 1 _ _ (.int .i64 (r.2.1 : Int)) h1
  have h3 := heap_setCell_same _ O 2 _ _ (.int .i64 (r.2.2 : Int)) h2
  have HB5 : Keep (Below O w w4) := ⟨by rw [HOE.out]; exact HB4.out⟩
  have HBF := Keep.mk (((HB5.out.setCell (p := ⟨O, 0, none⟩) (Nat.le_refl _) (.string (mkS r.1))).setCell (p := ⟨O, 1, none⟩) (Nat.le_refl _) (.int .i64 (r.2.1 : Int))).setCell (p := ⟨O, 2, none⟩) (Nat.le_refl _) (.int .i64 (r.2.2 : Int)))
  clear h1 h2 o0 o1 o2 z0 z1 z2 zl HO4 HB4 HB5
  generalize (((w4.setCell ⟨O, 0, none⟩ (.string (mkS r.1))).setCell ⟨O, 1, none⟩ (.int .i64 (r.2.1 : Int))).setCell ⟨O, 2, none⟩ (.int .i64 (r.2.2 : Int))) = wf at *
  have c0 : wf.cell? ⟨O, 0, none⟩ = some (.string (mkS r.1)) := by simp [World.cell?, h3]
  have c1 : wf.cell? ⟨O, 1, none⟩ = some (.int .i64 (r.2.1 : Int)) := by simp [World.cell?, h3]
  have c2 : wf.cell? ⟨O, 2, none⟩ = some (.int .i64 (r.2.2 : Int)) := by simp [World.cell?, h3]
  refine bodyPost_ret (v := outV r) (by simp [results, Tryz.results19, go_sem, c0, c1, c2]) rfl ?_
  exact ⟨by rw [← HR.out], by rw [← HOE.out]; exact HBF.out⟩
/-- What Boot gives. -/
def bootC (T : ByteArray) (tot : Nat) (xs : List Nat) (inp : List W) (f : Nat) : List UInt8 × Nat × Nat := if xs = [] then ([], 9, 0) else if missL tot xs = [] then runT (mkS (textTo T tot)) inp f else ([], 19, 0)
/-- The outcome is written. -/
theorem outcome_set {w w4 : World} {O : Nat} (r : List UInt8 × Nat × Nat) (h : w4.heap[O]? = some (.cells #[.string ⟨#[]⟩, .int .i64 0, .int .i64 0] 35 (0, 0))) (hb : Below O w w4) :
    Below O w (((w4.setCell ⟨O, 0, none⟩ (.string (mkS r.1))).setCell ⟨O, 1, none⟩ (.int .i64 (r.2.1 : Int))).setCell ⟨O, 2, none⟩ (.int .i64 (r.2.2 : Int))) ∧
    (((w4.setCell ⟨O, 0, none⟩ (.string (mkS r.1))).setCell ⟨O, 1, none⟩ (.int .i64 (r.2.1 : Int))).setCell ⟨O, 2, none⟩ (.int .i64 (r.2.2 : Int))).cell? ⟨O, 0, none⟩ = some (.string (mkS r.1)) ∧
    (((w4.setCell ⟨O, 0, none⟩ (.string (mkS r.1))).setCell ⟨O, 1, none⟩ (.int .i64 (r.2.1 : Int))).setCell ⟨O, 2, none⟩ (.int .i64 (r.2.2 : Int))).cell? ⟨O, 1, none⟩ = some (.int .i64 (r.2.1 : Int)) ∧
    (((w4.setCell ⟨O, 0, none⟩ (.string (mkS r.1))).setCell ⟨O, 1, none⟩ (.int .i64 (r.2.1 : Int))).setCell ⟨O, 2, none⟩ (.int .i64 (r.2.2 : Int))).cell? ⟨O, 2, none⟩ = some (.int .i64 (r.2.2 : Int)) := by
  have h1 := heap_setCell_same w4 O 0 _ _ (.string (mkS r.1)) h
  have h2 := heap_setCell_same _ O 1 _ _ (.int .i64 (r.2.1 : Int)) h1
  have h3 := heap_setCell_same _ O 2 _ _ (.int .i64 (r.2.2 : Int)) h2
  refine ⟨((hb.setCell (p := ⟨O, 0, none⟩) (Nat.le_refl _) (.string (mkS r.1))).setCell (p := ⟨O, 1, none⟩) (Nat.le_refl _) (.int .i64 (r.2.1 : Int))).setCell (p := ⟨O, 2, none⟩) (Nat.le_refl _) (.int .i64 (r.2.2 : Int)), ?_, ?_, ?_⟩ <;> simp [World.cell?, h3]
set_option maxHeartbeats 4000000 in
theorem boot_any {w : World} {v : Value} (ps : List Pc) (arch : W) (tot : Nat) (T : ByteArray) (f : Nat) (htab : Tab w) (ht15 : tot ≤ 1000) (hv : Strs w v (ps.map (·.1))) (hg : ∀ p ∈ ps, GoodP arch.toNat tot T p) (hl : ps.length ≤ 1000) (hT : (textTo T tot).length ≤ 1000) (hf : f ≤ 1000000) (hf0 : 0 < f) :
    Calls Tryz.prog 8 #[v, .int .u32 (W32 arch), .int .i64 f] w fun e w' => e = .returned (outV (bootC T tot (fsOf ps) (inputL arch (ps.map (·.1))) f)) ∧ Below w.heap.size w w' := by
  have hO := heap_alloc_new w (.cells #[.string ⟨#[]⟩, .int .i64 0, .int .i64 0] 35)
  have hb1 : Below w.heap.size w (w.alloc (.cells #[.string ⟨#[]⟩, .int .i64 0, .int .i64 0] 35)) := (Below.refl _ _).alloc (Nat.le_refl _) _
  have HV := Keep.mk hv
  have HG := Keep.mk hg
  have HTB := Keep.mk htab
  have HPS : Keep (∀ p ∈ ps.map (·.1), p.size ≤ 4000) := ⟨fun p hp => by
    obtain ⟨q, hq, rfl⟩ := List.mem_map.1 hp
    have h1 := (hg q hq).hi
    have h2 := (hg q hq).n4
    omega⟩
  have HLN : Keep ((ps.map (·.1)).length ≤ 1000) := ⟨by simpa using hl⟩
  have HTL : Keep ((mkS (textTo T tot)).size ≤ 1000) := ⟨by rw [mkS_size]; exact hT⟩
  have HAR : Keep (W32 arch = ((arch.toNat : Nat) : Int)) := ⟨rfl⟩
  have HAL : Keep (arch.toNat < 4294967296) := ⟨arch.isLt⟩
  obtain ⟨va, vc, rfl, hv1, hv2, hv3⟩ := hv
  have HLD : Keep (∀ w2, Below w.heap.size w w2 → Calls Tryz.prog 9 #[.slice va (ps.map (·.1)).length vc, .int .u32 (W32 arch)] w2 (LoadEnd w2 tot T (fsOf ps))) := ⟨fun w2 hb => by
    rw [HAR.out]
    exact load_any _ ps arch.toNat tot T w2 HAL.out (HTB.out.below hb) (by omega) (HV.out.below hb (Nat.le_refl _)) HG.out⟩
  clear hv3 hg htab hT HTB HG HAR HAL
  generalize (ps.map (·.1)) = l at *
  generalize fsOf ps = xs at *
  go_enter Tryz.func8, Tryz.ntmps8
  go_upto_region 1 with (fail)
  have HO := Keep.mk hO
  have HB1 := Keep.mk hb1
  clear hO hb1
  obtain ⟨O, hOE⟩ : ∃ O, O = w.heap.size := ⟨_, rfl⟩
  have HOE := Keep.mk hOE
  generalize (w.alloc (.cells #[.string ⟨#[]⟩, .int .i64 0, .int .i64 0] 35)) = w1 at *
  rw [← hOE] at HO ⊢
  clear hOE
  go_wp2_with fail
  refine (HLD.out _ HB1.out).mono ?_
  rintro e w2 ⟨hb2, he⟩
  have HB2 := Keep.mk (HB1.out.trans (hb2.mono HB1.out.size))
  have HO2 := Keep.mk ((hb2.block O (Array.getElem?_eq_some_iff.1 HO.out).1).trans HO.out)
  clear hb2 HB1 HO HLD
  obtain ⟨r, hr⟩ : ∃ r, r = bootC T tot xs (inputL arch l) f := ⟨_, rfl⟩
  have HR := Keep.mk hr
  clear hr
  by_cases hx : xs = []
  · rw [if_pos hx] at he
    subst he
    obtain rfl : r = ([], 9, 0) := by rw [HR.out, bootC, if_pos hx]
    have o0 : w2.cell? ⟨O, 0, none⟩ = some (.string ⟨#[]⟩) := by simp [World.cell?, HO2.out]
    have o1 : w2.cell? ⟨O, 1, none⟩ = some (.int .i64 0) := by simp [World.cell?, HO2.out]
    have o2 : w2.cell? ⟨O, 2, none⟩ = some (.int .i64 0) := by simp [World.cell?, HO2.out]
    have z0 : w2.frozen? ⟨O, 0, none⟩ = false := by simp [World.frozen?, HO2.out]
    have z1 : w2.frozen? ⟨O, 1, none⟩ = false := by simp [World.frozen?, HO2.out]
    have z2 : w2.frozen? ⟨O, 2, none⟩ = false := by simp [World.frozen?, HO2.out]
    have zl : O < w2.heap.size := (Array.getElem?_eq_some_iff.1 HO2.out).1
    clear hx
    go_wp2_with fail
    generalize hwf : (((w2.setCell ⟨O, 0, none⟩ (.string ⟨#[]⟩)).setCell ⟨O, 1, none⟩ (.int .i64 9)).setCell ⟨O, 2, none⟩ (.int .i64 0)) = wf at *
    have hz : Below O w wf ∧ wf.cell? ⟨O, 0, none⟩ = some (.string ⟨#[]⟩) ∧ wf.cell? ⟨O, 1, none⟩ = some (.int .i64 9) ∧ wf.cell? ⟨O, 2, none⟩ = some (.int .i64 0) := by
      rw [← hwf]
      exact outcome_set (w := w) ([], 9, 0) HO2.out (by rw [HOE.out]; exact HB2.out)
    clear o0 o1 o2 z0 z1 z2 zl HO2 hwf
    obtain ⟨zb, c0, c1, c2⟩ := hz
    refine bodyPost_ret (v := outV ([], 9, 0)) (by simp [results, Tryz.results8, go_sem, c0, c1, c2, mkS]) rfl ?_
    exact ⟨by rw [← HR.out], by rw [← HOE.out]; exact zb⟩
  · rw [if_neg hx] at he
    have HX := Keep.mk hx
    clear hx
    by_cases hm : missL tot xs = []
    · rw [if_pos hm] at he
      subst he
      have HRR : Keep (r = runT (mkS (textTo T tot)) (inputL arch l) f) := ⟨by rw [HR.out, bootC, if_neg HX.out, if_pos hm]⟩
      clear hm
      generalize (mkS (textTo T tot)) = tx at *
      go_wp2_with fail
      refine (start_any tx l arch f (HV.out.below HB2.out (Nat.le_refl _)) HLN.out HPS.out HTL.out hf hf0).mono ?_
      rintro _ w3 ⟨rfl, hb3⟩
      have HB3 := Keep.mk (HB2.out.trans (hb3.mono HB2.out.size))
      have HO3 := Keep.mk ((hb3.block O (Array.getElem?_eq_some_iff.1 HO2.out).1).trans HO2.out)
      clear hb3 HO2 HB2
      rw [← HRR.out]
      have o0 : w3.cell? ⟨O, 0, none⟩ = some (.string ⟨#[]⟩) := by simp [World.cell?, HO3.out]
      have o1 : w3.cell? ⟨O, 1, none⟩ = some (.int .i64 0) := by simp [World.cell?, HO3.out]
      have o2 : w3.cell? ⟨O, 2, none⟩ = some (.int .i64 0) := by simp [World.cell?, HO3.out]
      have z0 : w3.frozen? ⟨O, 0, none⟩ = false := by simp [World.frozen?, HO3.out]
      have z1 : w3.frozen? ⟨O, 1, none⟩ = false := by simp [World.frozen?, HO3.out]
      have z2 : w3.frozen? ⟨O, 2, none⟩ = false := by simp [World.frozen?, HO3.out]
      have zl : O < w3.heap.size := (Array.getElem?_eq_some_iff.1 HO3.out).1
      go_wp2_with fail
      have hz := outcome_set (w := w) r HO3.out (by rw [HOE.out]; exact HB3.out)
      clear o0 o1 o2 z0 z1 z2 zl HO3
      generalize (((w3.setCell ⟨O, 0, none⟩ (.string (mkS r.1))).setCell ⟨O, 1, none⟩ (.int .i64 (r.2.1 : Int))).setCell ⟨O, 2, none⟩ (.int .i64 (r.2.2 : Int))) = wf at *
      obtain ⟨zb, c0, c1, c2⟩ := hz
      refine bodyPost_ret (v := outV r) (by simp [results, Tryz.results8, go_sem, c0, c1, c2]) rfl ?_
      exact ⟨by rw [← HR.out], by rw [← HOE.out]; exact zb⟩
    · rw [if_neg hm] at he
      obtain ⟨mv, rfl, hown⟩ := he
      obtain rfl : r = ([], 19, 0) := by rw [HR.out, bootC, if_neg HX.out, if_neg hm]
      have o0 : w2.cell? ⟨O, 0, none⟩ = some (.string ⟨#[]⟩) := by simp [World.cell?, HO2.out]
      have o1 : w2.cell? ⟨O, 1, none⟩ = some (.int .i64 0) := by simp [World.cell?, HO2.out]
      have o2 : w2.cell? ⟨O, 2, none⟩ = some (.int .i64 0) := by simp [World.cell?, HO2.out]
      have z0 : w2.frozen? ⟨O, 0, none⟩ = false := by simp [World.frozen?, HO2.out]
      have z1 : w2.frozen? ⟨O, 1, none⟩ = false := by simp [World.frozen?, HO2.out]
      have z2 : w2.frozen? ⟨O, 2, none⟩ = false := by simp [World.frozen?, HO2.out]
      have zl : O < w2.heap.size := (Array.getElem?_eq_some_iff.1 HO2.out).1
      clear hm hown
      go_wp2_with fail
      generalize hwf : (((w2.setCell ⟨O, 0, none⟩ (.string ⟨#[]⟩)).setCell ⟨O, 1, none⟩ (.int .i64 19)).setCell ⟨O, 2, none⟩ (.int .i64 0)) = wf at *
      have hz : Below O w wf ∧ wf.cell? ⟨O, 0, none⟩ = some (.string ⟨#[]⟩) ∧ wf.cell? ⟨O, 1, none⟩ = some (.int .i64 19) ∧ wf.cell? ⟨O, 2, none⟩ = some (.int .i64 0) := by
        rw [← hwf]
        exact outcome_set (w := w) ([], 19, 0) HO2.out (by rw [HOE.out]; exact HB2.out)
      clear o0 o1 o2 z0 z1 z2 zl HO2 hwf
      obtain ⟨zb, c0, c1, c2⟩ := hz
      refine bodyPost_ret (v := outV ([], 19, 0)) (by simp [results, Tryz.results8, go_sem, c0, c1, c2, mkS]) rfl ?_
      exact ⟨by rw [← HR.out], by rw [← HOE.out]; exact zb⟩
end Go.Proofs.YtojgopbaiflfgaaGreatDoor
