/- plainframe.Decode of the cells of a whole piece. Condition: the table of powers of ten lies; bounds. -/
import Derived.Test.YtojgopbaiflfgaaGreatDoorTpEncode
import Derived.Test.YtojgopbaiflfgaaGreatDoorTpCheck
import Derived.Test.YtojgopbaiflfgaaGreatDoorTpBytes
namespace Go.Proofs.YtojgopbaiflfgaaGreatDoor
set_option maxRecDepth 100000
open Go.RowKit Go.Shelf

theorem parseM_append {M : Nat} : ∀ (l m : List UInt8) (acc a : Nat), Lib.parseUintM M acc l = .ok a → Lib.parseUintM M acc (l ++ m) = Lib.parseUintM M a m
  | [], m, acc, a, h => by
    simp only [Lib.parseUintM, Lib.NumEnd.ok.injEq] at h
    subst h
    rfl
  | c :: l, m, acc, a, h => by
    rw [Lib.parseUintM] at h
    rw [List.cons_append, Lib.parseUintM]
    split at h
    · next h1 =>
      rw [if_pos h1]
      split at h
      · cases h
      · next h2 =>
        rw [if_neg h2]
        split at h
        · cases h
        · next h3 => rw [if_neg h3]; exact parseM_append l m _ a h
    · cases h
theorem parseM_zeros {M : Nat} : ∀ (k : Nat), Lib.parseUintM M 0 (List.replicate k 48) = .ok 0
  | 0 => rfl
  | k + 1 => by
    rw [List.replicate_succ, Lib.parseUintM, if_pos (by decide), if_neg (by decide), if_neg (by simp)]
    exact parseM_zeros k
theorem digit_nat {d : Nat} (h : d < 10) : (UInt8.ofNat (48 + d)).toNat = 48 + d := by
  rw [UInt8.toNat_ofNat']; omega
theorem parseM_dec (u : Nat) (h : u < 18446744073709551616) : Lib.parseUintM 18446744073709551615 0 (Lib.decDigits u) = .ok u := by
  induction u using Nat.strongRecOn with
  | _ u ih =>
    by_cases hs : u < 10
    · rw [Lib.decDigits, dif_pos hs, Lib.parseUintM, digit_nat hs, if_pos (by omega), if_neg (by decide), if_neg (by omega), Lib.parseUintM]
      congr 1
      omega
    · rw [Lib.decDigits, dif_neg hs, parseM_append _ _ _ _ (ih (u / 10) (by omega) (by omega)), Lib.parseUintM, digit_nat (by omega), if_pos (by omega), if_neg (by omega), if_neg (by omega), Lib.parseUintM]
      congr 1
      omega
theorem decDigits_digs (u : Nat) : ∀ c ∈ Lib.decDigits u, 48 ≤ c.toNat ∧ c.toNat ≤ 57 := by
  induction u using Nat.strongRecOn with
  | _ u ih =>
    intro c hc
    by_cases hs : u < 10
    · rw [Lib.decDigits, dif_pos hs, List.mem_singleton] at hc
      subst hc
      rw [digit_nat hs]
      omega
    · rw [Lib.decDigits, dif_neg hs, List.mem_append, List.mem_singleton] at hc
      rcases hc with hc | rfl
      · exact ih (u / 10) (by omega) c hc
      · rw [digit_nat (by omega)]
        omega
theorem padD_digs (n u : Nat) : Digs (mkS (padD n u)) := by
  intro c hc
  rw [data_mkS, padD, List.mem_append] at hc
  rcases hc with hc | hc
  · rw [List.eq_of_mem_replicate hc]; decide
  · exact decDigits_digs u c hc
theorem parseB_pad (n u : Nat) (hn : 0 < n) (h : u < 10 ^ n) (h64 : u < 18446744073709551616) : Lib.parseUintB 64 (mkS (padD n u)).data.toList = .ok u := by
  rw [data_mkS, Lib.parseUintB, if_neg]
  · rw [padD, parseM_append _ _ _ _ (parseM_zeros _)]
    exact parseM_dec u h64
  · intro e
    have := padD_exact n u hn h
    rw [e] at this
    simp at this
    omega
theorem ext_mkS (l : List UInt8) (i j : Nat) : (mkS l).extract i j = mkS ((l.drop i).take (j - i)) := by
  rw [Lib.extract_eq, data_mkS]
  rfl
theorem headL_length (arch idx tot : Nat) (text : ByteArray) (ha : arch < 4294967296) (h : PieceOk idx tot text) : (headL arch idx tot text.data.toList).length = 84 := by
  have hX : text.data.toList.length = 64 := by have := h.len; simpa using this
  unfold headL
  simp only [List.length_append]
  rw [padD_exact 10 arch (by omega) (by omega), padD_exact 5 idx (by omega) (by have := h.i1; have := h.t2; omega), padD_exact 5 tot (by omega) (by have := h.t2; omega)]
  omega
/-- What a sealed text's parts are. -/
theorem sealed_parts (arch idx tot : Nat) (text : ByteArray) (ha : arch < 4294967296) (h : PieceOk idx tot text) (S : ByteArray) (hS : S = mkS (sealL (headL arch idx tot text.data.toList))) :
    S.size = 94 ∧ S.extract 0 84 = mkS (headL arch idx tot text.data.toList) ∧ S.extract 0 10 = mkS (padD 10 arch) ∧ S.extract 10 15 = mkS (padD 5 idx) ∧ S.extract 15 20 = mkS (padD 5 tot) ∧ S.extract 20 84 = text := by
  have hA : (padD 10 arch).length = 10 := padD_exact 10 arch (by omega) (by omega)
  have hI : (padD 5 idx).length = 5 := padD_exact 5 idx (by omega) (by have := h.i1; have := h.t2; omega)
  have hT : (padD 5 tot).length = 5 := padD_exact 5 tot (by omega) (by have := h.t2; omega)
  have hX : text.data.toList.length = 64 := by have := h.len; simpa using this
  have hH : (headL arch idx tot text.data.toList).length = 84 := by unfold headL; simp only [List.length_append]; omega
  have hZ : (padD 10 (sumC (headL arch idx tot text.data.toList)).toNat).length = 10 := padD_exact 10 _ (by omega) (by have := (sumC (headL arch idx tot text.data.toList)).isLt; omega)
  subst hS
  have key : ∀ (i j : Nat) (a b c : List UInt8), sealL (headL arch idx tot text.data.toList) = a ++ (b ++ c) → a.length = i → b.length = j - i → (mkS (sealL (headL arch idx tot text.data.toList))).extract i j = mkS b := fun i j a b c e h1 h2 => by
    rw [ext_mkS, e, List.drop_append_of_le_length (by omega), List.drop_of_length_le (by omega), List.nil_append, List.take_append_of_le_length (by omega), List.take_of_length_le (by omega)]
  refine ⟨?_, ?_, ?_, ?_, ?_, ?_⟩
  · rw [mkS_size]; unfold sealL; rw [List.length_append]; omega
  · exact key 0 84 [] _ _ rfl rfl (by omega)
  · refine key 0 10 [] (padD 10 arch) (padD 5 idx ++ padD 5 tot ++ text.data.toList ++ padD 10 (sumC (headL arch idx tot text.data.toList)).toNat) ?_ rfl (by omega)
    unfold sealL headL; simp
  · refine key 10 15 (padD 10 arch) (padD 5 idx) (padD 5 tot ++ text.data.toList ++ padD 10 (sumC (headL arch idx tot text.data.toList)).toNat) ?_ hA (by omega)
    unfold sealL headL; simp
  · refine key 15 20 (padD 10 arch ++ padD 5 idx) (padD 5 tot) (text.data.toList ++ padD 10 (sumC (headL arch idx tot text.data.toList)).toNat) ?_ (by rw [List.length_append]; omega) (by omega)
    unfold sealL headL; simp
  · rw [key 20 84 (padD 10 arch ++ padD 5 idx ++ padD 5 tot) text.data.toList (padD 10 (sumC (headL arch idx tot text.data.toList)).toNat) (by unfold sealL headL; simp) (by simp only [List.length_append]; omega) (by omega)]
    exact mkS_data text
set_option maxHeartbeats 4000000 in
theorem decode_any (arch idx tot : Nat) (text c : ByteArray) (ha : arch < 4294967296) (h : PieceOk idx tot text) (hc : c = mkS (cellsL (sealL (headL arch idx tot text.data.toList)))) (w : World) (htab : Tab w) :
    Calls Tryz.prog 36 #[.string c] w fun e w' => e = .returned (.tuple #[.agg #[.int .u32 arch, .int .i64 idx, .int .i64 tot, .string text], .int .i64 0]) ∧ Below w.heap.size w w' := by
  obtain ⟨S, hS⟩ : ∃ S, S = mkS (sealL (headL arch idx tot text.data.toList)) := ⟨_, rfl⟩
  obtain ⟨p0, p1, p2, p3, p4, p5⟩ := sealed_parts arch idx tot text ha h S hS
  have hi := h.i1
  have ht := h.t2
  have htx := h.len
  have hcd : c.data.toList = cellsL (sealL (headL arch idx tot text.data.toList)) := by rw [hc, data_mkS]
  have hsl : (sealL (headL arch idx tot text.data.toList)).length = 94 := by rw [hS, mkS_size] at p0; exact p0
  have hcs : c.size = 752 := by rw [hc, mkS_size, cellsL_length, hsl]
  have HCL : Keep (Clear c) := ⟨fun x hx => cellsL_clear (by rw [hcd] at hx; exact hx)⟩
  have HCK := Keep.mk (fun w => check_clear c w (by omega) HCL.out)
  have HUN := Keep.mk (fun w => unreadable_clear c w HCL.out)
  have HTB := Keep.mk (fun w => toBytes_any c _ hcd (by omega) w)
  rw [← hS] at HTB
  have HSE : Keep (∀ w, Tab w → Calls Tryz.prog 32 #[.string (S.extract 0 84)] w fun e w' => e = .returned (.string S) ∧ Below w.heap.size w w') := ⟨fun w ht => by
    have := seal_any (S.extract 0 84) w (by rw [p1, mkS_size, headL_length arch idx tot text ha h]; decide) ht
    rw [p1, data_mkS, ← hS] at this
    rw [p1]
    exact this⟩
  have HPA : Keep (∀ w, Calls Tryz.prog 52 #[.string (S.extract 0 10)] w fun e w' => e = .returned (.tuple #[.int .u64 arch, .bool true]) ∧ Below w.heap.size w w') := ⟨fun w => by
    rw [p2]; exact parse_any _ w (by rw [mkS_size, padD_exact 10 arch (by omega) (by omega)]; decide) (padD_digs _ _) arch (parseB_pad 10 arch (by omega) (by omega) (by omega))⟩
  have HPI : Keep (∀ w, Calls Tryz.prog 52 #[.string (S.extract 10 15)] w fun e w' => e = .returned (.tuple #[.int .u64 idx, .bool true]) ∧ Below w.heap.size w w') := ⟨fun w => by
    rw [p3]; exact parse_any _ w (by rw [mkS_size, padD_exact 5 idx (by omega) (by omega)]; decide) (padD_digs _ _) idx (parseB_pad 5 idx (by omega) (by omega) (by omega))⟩
  have HPT : Keep (∀ w, Calls Tryz.prog 52 #[.string (S.extract 15 20)] w fun e w' => e = .returned (.tuple #[.int .u64 tot, .bool true]) ∧ Below w.heap.size w w') := ⟨fun w => by
    rw [p4]; exact parse_any _ w (by rw [mkS_size, padD_exact 5 tot (by omega) (by omega)]; decide) (padD_digs _ _) tot (parseB_pad 5 tot (by omega) (by omega) (by omega))⟩
  have HOK := Keep.mk h
  have HTAB := Keep.mk htab
  have HTX := Keep.mk p5
  have u1 : IntKind.u32.wrap (arch : Int) = arch := by rw [IntKind.wrap_u32]; omega
  have u2 : IntKind.i64.wrap (idx : Int) = idx := IntWalk.i64_in _ (by omega)
  have u3 : IntKind.i64.wrap (tot : Int) = tot := IntWalk.i64_in _ (by omega)
  have f1 : ¬ (4294967295 : Int) < (arch : Int) := by omega
  clear hS p1 p2 p3 p4 p5 hcd hsl hc HCL h htab
  go_enter Tryz.func36, Tryz.ntmps36
  have hX := heap_alloc_new w (.cells #[.int .u32 0, .int .i64 0, .int .i64 0, .string ⟨#[]⟩] 53)
  have hb1 : Below w.heap.size w (w.alloc (.cells #[.int .u32 0, .int .i64 0, .int .i64 0, .string ⟨#[]⟩] 53)) := (Below.refl _ _).alloc (Nat.le_refl _) _
  go_upto_region 1 with (fail)
  generalize (w.alloc (.cells #[.int .u32 0, .int .i64 0, .int .i64 0, .string ⟨#[]⟩] 53)) = w1 at *
  have HX := Keep.mk hX
  have HB1 := Keep.mk hb1
  clear hX hb1
  go_wp2_with fail
  refine (HCK.out _).mono ?_
  rintro _ w2 ⟨rfl, hb2⟩
  have HB2 := Keep.mk (HB1.out.trans (hb2.mono HB1.out.size))
  have HX2 := Keep.mk ((hb2.block w.heap.size (Array.getElem?_eq_some_iff.1 HX.out).1).trans HX.out)
  clear hb2 HX HB1 HCK
  go_wp2_with fail
  refine (HUN.out _).mono ?_
  rintro _ w3 ⟨rfl, rfl⟩
  go_wp2_with fail
  refine (HTB.out _).mono ?_
  rintro _ w4 ⟨rfl, hb4⟩
  have HB4 := Keep.mk (HB2.out.trans (hb4.mono HB2.out.size))
  have HX4 := Keep.mk ((hb4.block w.heap.size (Array.getElem?_eq_some_iff.1 HX2.out).1).trans HX2.out)
  clear hb4 HX2 HB2 HTB
  go_wp2_with fail
  refine (HSE.out _ (HTAB.out.below HB4.out)).mono ?_
  rintro _ w5 ⟨rfl, hb5⟩
  have HB5 := Keep.mk (HB4.out.trans (hb5.mono HB4.out.size))
  have HX5 := Keep.mk ((hb5.block w.heap.size (Array.getElem?_eq_some_iff.1 HX4.out).1).trans HX4.out)
  clear hb5 HX4 HB4 HSE
  go_wp2_with fail
  refine (digits_any 10 _).mono ?_
  rintro _ w6 ⟨rfl, hw6⟩
  have HB6 : Keep (Below w5.heap.size w5 w6) := ⟨by rw [hw6]; exact (Below.refl _ _).alloc (Nat.le_refl _) _⟩
  have HB6' := Keep.mk (HB5.out.trans (HB6.out.mono HB5.out.size))
  have HX6 := Keep.mk ((HB6.out.block w.heap.size (Array.getElem?_eq_some_iff.1 HX5.out).1).trans HX5.out)
  unfold fmtV
  generalize w5.heap.size = P at *
  clear hw6 HX5 HB5 HB6
  go_wp2_with fail
  refine (digits_any 5 _).mono ?_
  rintro _ w7 ⟨rfl, hw7⟩
  have HB7 : Keep (Below w6.heap.size w6 w7) := ⟨by rw [hw7]; exact (Below.refl _ _).alloc (Nat.le_refl _) _⟩
  have HB7' := Keep.mk (HB6'.out.trans (HB7.out.mono HB6'.out.size))
  have HX7 := Keep.mk ((HB7.out.block w.heap.size (Array.getElem?_eq_some_iff.1 HX6.out).1).trans HX6.out)
  unfold fmtV
  generalize w6.heap.size = Q at *
  clear hw7 HX6 HB6' HB7
  go_wp2_with fail
  refine (HPA.out _).mono ?_
  rintro _ w8 ⟨rfl, hb8⟩
  have HB8 := Keep.mk (HB7'.out.trans (hb8.mono HB7'.out.size))
  have HX8 := Keep.mk ((hb8.block w.heap.size (Array.getElem?_eq_some_iff.1 HX7.out).1).trans HX7.out)
  clear hb8 HX7 HB7' HPA
  go_wp2_with fail
  refine (HPI.out _).mono ?_
  rintro _ w9 ⟨rfl, hb9⟩
  have HB9 := Keep.mk (HB8.out.trans (hb9.mono HB8.out.size))
  have HX9 := Keep.mk ((hb9.block w.heap.size (Array.getElem?_eq_some_iff.1 HX8.out).1).trans HX8.out)
  clear hb9 HX8 HB8 HPI
  go_wp2_with fail
  refine (HPT.out _).mono ?_
  rintro _ wa ⟨rfl, hba⟩
  have HBa := Keep.mk (HB9.out.trans (hba.mono HB9.out.size))
  have HXa := Keep.mk ((hba.block w.heap.size (Array.getElem?_eq_some_iff.1 HX9.out).1).trans HX9.out)
  clear hba HX9 HB9 HPT
  go_upto_region 20 with (fail)
  rw [HTX.out]
  have hY := heap_alloc_new wa (.cells #[.int .u32 arch, .int .i64 idx, .int .i64 tot, .string text] 53)
  have hbb : Below wa.heap.size wa (wa.alloc (.cells #[.int .u32 arch, .int .i64 idx, .int .i64 tot, .string text] 53)) := (Below.refl _ _).alloc (Nat.le_refl _) _
  have hxl := (Array.getElem?_eq_some_iff.1 HXa.out).1
  have HXb := Keep.mk ((hbb.block w.heap.size hxl).trans HXa.out)
  have HBb := Keep.mk (HBa.out.trans (hbb.mono HBa.out.size))
  have HNE : Keep (w.heap.size ≠ wa.heap.size) := ⟨by omega⟩
  generalize (wa.alloc (.cells #[.int .u32 arch, .int .i64 idx, .int .i64 tot, .string text] 53)) = wb at *
  generalize wa.heap.size = Y at *
  have HY := Keep.mk hY
  have y0 : wb.cell? ⟨Y, 0, none⟩ = some (.int .u32 arch) := by simp [World.cell?, hY]
  have y1 : wb.cell? ⟨Y, 1, none⟩ = some (.int .i64 idx) := by simp [World.cell?, hY]
  have y2 : wb.cell? ⟨Y, 2, none⟩ = some (.int .i64 tot) := by simp [World.cell?, hY]
  have y3 : wb.cell? ⟨Y, 3, none⟩ = some (.string text) := by simp [World.cell?, hY]
  have yl : Y < wb.heap.size := (Array.getElem?_eq_some_iff.1 hY).1
  clear hY hbb hxl HXa HBa
  go_wp2_with fail
  refine (pcheck_any arch idx tot text HOK.out wb).mono ?_
  rintro _ wc ⟨rfl, hbc⟩
  have HXc := Keep.mk ((hbc.block w.heap.size (Array.getElem?_eq_some_iff.1 HXb.out).1).trans HXb.out)
  have HYc := Keep.mk ((hbc.block Y yl).trans HY.out)
  have HBc := Keep.mk (HBb.out.trans (hbc.mono HBb.out.size))
  clear hbc y0 y1 y2 y3 yl HY HXb HBb
  have y0 : wc.cell? ⟨Y, 0, none⟩ = some (.int .u32 arch) := by simp [World.cell?, HYc.out]
  have y1 : wc.cell? ⟨Y, 1, none⟩ = some (.int .i64 idx) := by simp [World.cell?, HYc.out]
  have y2 : wc.cell? ⟨Y, 2, none⟩ = some (.int .i64 tot) := by simp [World.cell?, HYc.out]
  have y3 : wc.cell? ⟨Y, 3, none⟩ = some (.string text) := by simp [World.cell?, HYc.out]
  have yl : Y < wc.heap.size := (Array.getElem?_eq_some_iff.1 HYc.out).1
  have x0 : wc.cell? ⟨w.heap.size, 0, none⟩ = some (.int .u32 0) := by simp [World.cell?, HXc.out]
  have x1 : wc.cell? ⟨w.heap.size, 1, none⟩ = some (.int .i64 0) := by simp [World.cell?, HXc.out]
  have x2 : wc.cell? ⟨w.heap.size, 2, none⟩ = some (.int .i64 0) := by simp [World.cell?, HXc.out]
  have x3 : wc.cell? ⟨w.heap.size, 3, none⟩ = some (.string ⟨#[]⟩) := by simp [World.cell?, HXc.out]
  have xl : w.heap.size < wc.heap.size := (Array.getElem?_eq_some_iff.1 HXc.out).1
  have z0 : wc.frozen? ⟨w.heap.size, 0, none⟩ = false := by simp [World.frozen?, HXc.out]
  have z1 : wc.frozen? ⟨w.heap.size, 1, none⟩ = false := by simp [World.frozen?, HXc.out]
  have z2 : wc.frozen? ⟨w.heap.size, 2, none⟩ = false := by simp [World.frozen?, HXc.out]
  have z3 : wc.frozen? ⟨w.heap.size, 3, none⟩ = false := by simp [World.frozen?, HXc.out]
  go_wp2_with fail
  have h1 := heap_setCell_same wc w.heap.size 0 _ _ (.int .u32 (arch : Int)) HXc.out
  have h2 := heap_setCell_same _ w.heap.size 1 _ _ (.int .i64 (idx : Int)) h1
  have h3 := heap_setCell_same _ w.heap.size 2 _ _ (.int .i64 (tot : Int)) h2
  have h4 := heap_setCell_same _ w.heap.size 3 _ _ (.string text) h3
  have HBF := Keep.mk ((((HBc.out.setCell (p := ⟨w.heap.size, 0, none⟩) (Nat.le_refl _) (.int .u32 arch)).setCell (p := ⟨w.heap.size, 1, none⟩) (Nat.le_refl _) (.int .i64 idx)).setCell (p := ⟨w.heap.size, 2, none⟩) (Nat.le_refl _) (.int .i64 tot)).setCell (p := ⟨w.heap.size, 3, none⟩) (Nat.le_refl _) (.string text))
  clear h1 h2 h3 x0 x1 x2 x3 z0 z1 z2 z3 y0 y1 y2 y3 yl xl HXc HYc HBc
  generalize ((((wc.setCell ⟨w.heap.size, 0, none⟩ (.int .u32 arch)).setCell ⟨w.heap.size, 1, none⟩ (.int .i64 idx)).setCell ⟨w.heap.size, 2, none⟩ (.int .i64 tot)).setCell ⟨w.heap.size, 3, none⟩ (.string text)) = wf at *
  have c0 : wf.cell? ⟨w.heap.size, 0, none⟩ = some (.int .u32 arch) := by simp [World.cell?, h4]
  have c1 : wf.cell? ⟨w.heap.size, 1, none⟩ = some (.int .i64 idx) := by simp [World.cell?, h4]
  have c2 : wf.cell? ⟨w.heap.size, 2, none⟩ = some (.int .i64 tot) := by simp [World.cell?, h4]
  have c3 : wf.cell? ⟨w.heap.size, 3, none⟩ = some (.string text) := by simp [World.cell?, h4]
  refine bodyPost_ret (v := .tuple #[.agg #[.int .u32 arch, .int .i64 idx, .int .i64 tot, .string text], .int .i64 0]) (by simp [results, Tryz.results36, go_sem, c0, c1, c2, c3]) rfl ?_
  exact ⟨rfl, HBF.out⟩
end Go.Proofs.YtojgopbaiflfgaaGreatDoor
