/- CheckerIndependent's helpers: does an expression, do statements call a function? Their walks. No condition but bounds. -/
import Derived.Test.YtgimdbflpdmlmaaCkSize
namespace Go.Proofs.Ytgimdbflpdmlmaa.Ck
set_option maxRecDepth 100000
open Go.Proofs.Ytgimdbflpdmlmaa

mutual
def Ex.uses (nm : BA) : Ex → Bool
  | .mk op _ name args => (decide (op = sCall) && decide (name = nm)) || usesL nm args
def usesL (nm : BA) : List Ex → Bool
  | [] => false
  | e :: l => e.uses nm || usesL nm l
end
mutual
def St.uses (nm : BA) : St → Bool
  | .mk _ _ index value thn els => usesL nm (value ++ index) || (usesS nm thn || usesS nm els)
def usesS (nm : BA) : List St → Bool
  | [] => false
  | s :: l => s.uses nm || usesS nm l
end
theorem usesL_append (nm : BA) (l m : List Ex) : usesL nm (l ++ m) = (usesL nm l || usesL nm m) := by
  induction l with
  | nil => simp [usesL]
  | cons e l ih => rw [List.cons_append, usesL, usesL, ih, Bool.or_assoc]
theorem usesS_append (nm : BA) (l m : List St) : usesS nm (l ++ m) = (usesS nm l || usesS nm m) := by
  induction l with
  | nil => simp [usesS]
  | cons e l ih => rw [List.cons_append, usesS, usesS, ih, Bool.or_assoc]
theorem usesL_step {nm : BA} {l : List Ex} {e : Ex} {k : Nat} (h : l[k]? = some e) : usesL nm (l.take (k + 1)) = (usesL nm (l.take k) || e.uses nm) := by
  rw [List.take_add_one, h, usesL_append]
  show (_ || usesL nm [e]) = _
  rw [usesL, usesL, Bool.or_false]
theorem usesS_step {nm : BA} {l : List St} {e : St} {k : Nat} (h : l[k]? = some e) : usesS nm (l.take (k + 1)) = (usesS nm (l.take k) || e.uses nm) := by
  rw [List.take_add_one, h, usesS_append]
  show (_ || usesS nm [e]) = _
  rw [usesS, usesS, Bool.or_false]
theorem usesL_some {nm : BA} {l : List Ex} {e : Ex} {k : Nat} (h : l[k]? = some e) (hu : e.uses nm = true) : usesL nm l = true := by
  have h1 := usesL_step (nm := nm) h
  rw [hu, Bool.or_true] at h1
  have h2 := usesL_append nm (l.take (k + 1)) (l.drop (k + 1))
  rw [List.take_append_drop, h1, Bool.true_or] at h2
  exact h2
theorem usesS_some {nm : BA} {l : List St} {e : St} {k : Nat} (h : l[k]? = some e) (hu : e.uses nm = true) : usesS nm l = true := by
  have h1 := usesS_step (nm := nm) h
  rw [hu, Bool.or_true] at h1
  have h2 := usesS_append nm (l.take (k + 1)) (l.drop (k + 1))
  rw [List.take_append_drop, h1, Bool.true_or] at h2
  exact h2
end Go.Proofs.Ytgimdbflpdmlmaa.Ck
namespace Go.Proofs.Ytgimdbflpdmlmaa
open Go.RowKit Go.Shelf Go.Proofs.Ytgimdbflpdmlmaa.Ck

set_option maxHeartbeats 8000000 in
theorem uses_any (nm : ByteArray) (n : Nat) : ∀ (e : Ex) (u : Value) (w : World), ExsAt w n u e.args →
    Calls Try.prog 36 #[.agg #[.string e.op, .int .u32 e.num, .string e.name, u], .string nm] w fun e' w' => e' = .returned (.bool (e.uses nm)) ∧ Below w.heap.size w w' := by
  induction n using Nat.strongRecOn with
  | ind n ih =>
  intro e u w hE
  obtain ⟨op, num, name, args⟩ := e
  change ExsAt w n u args at hE
  change Calls Try.prog 36 #[.agg #[.string op, .int .u32 num, .string name, u], .string nm] w _
  obtain ⟨ua, ucap, rfl, hu1, hu2⟩ := hE.len
  have hus : (Ex.mk op num name args).uses nm = ((decide (op = sCall) && decide (name = nm)) || usesL nm args) := by rw [Ex.uses]
  generalize (Ex.mk op num name args).uses nm = z at *
  have HS := Keep.mk hus
  have HE := Keep.mk hE
  have IH := Keep.mk ih
  unfold maxLen at hu2
  clear hE ih hus
  have hb0 : Below w.heap.size w (w.alloc (.cells #[.string op, .int .u32 num, .string name, .slice ua args.length ucap] 42)) := (Below.refl _ _).alloc (Nat.le_refl _) _
  have HBa := Keep.mk hb0
  clear hb0
  by_cases hop : op = sCall
  · have fop : (op.toList == [99, 97, 108, 108]) = true := by rw [eqs op (k := sCall) (by decide +kernel), decide_eq_true hop]
    have HS2 : Keep (z = (decide (name = nm) || usesL nm args)) := ⟨by rw [HS.out, decide_eq_true hop]; rfl⟩
    clear hop HS
    by_cases hn : name = nm
    · have fn : (name.toList == nm.toList) = true := by rw [toList_beq, decide_eq_true hn]
      have HZ : Keep (z = true) := ⟨by rw [HS2.out, decide_eq_true hn]; rfl⟩
      clear hn HS2
      go_enter Try.func36, Try.ntmps36
      go_wp2_with fail
      go_ret
      exact ⟨by rw [HZ.out]; rfl, HBa.out⟩
    · have fn : (name.toList == nm.toList) = false := by rw [toList_beq, decide_eq_false hn]
      have HZ : Keep (z = usesL nm args) := ⟨by rw [HS2.out, decide_eq_false hn]; rfl⟩
      clear hn HS2
      go_enter Try.func36, Try.ntmps36
      go_wp2_with fail
      go_loopw [19] (fun i wr => ∃ k : Nat, k ≤ args.length ∧ i = .int .i64 k ∧ Keep (usesL nm (args.take k) = false) ∧ Keep (Below w.heap.size w wr)) (fun i _ => args.length - (intOf i).toNat)
      case atStart => exact ⟨0, Nat.zero_le _, rfl, ⟨by rw [List.take_zero, usesL]⟩, HBa⟩
      case round =>
        obtain ⟨k, hk, rfl, HU0, HBr⟩ := hrel
        clear HBa
        by_cases hlt : k < args.length
        · have k0 : (0 : Int) ≤ k := by omega
          have k1 : (k : Int) < args.length := by omega
          obtain ⟨e, hek⟩ : ∃ e, args[k]? = some e := ⟨_, List.getElem?_eq_getElem hlt⟩
          obtain ⟨m, b, o, cap, u, hnm, hua, hb, x0, x1, x2, x3, hu⟩ := HE.out.get hek
          simp only [Value.slice.injEq, true_and] at hua
          obtain ⟨rfl, rfl⟩ := hua
          have z0 := (HBr.out.cell (p := ⟨b, o + k * 4, none⟩) hb).trans x0
          have z1 := (HBr.out.cell (p := ⟨b, o + k * 4 + 1, none⟩) hb).trans x1
          have z2 := (HBr.out.cell (p := ⟨b, o + k * 4 + 2, none⟩) hb).trans x2
          have z3 := (HBr.out.cell (p := ⟨b, o + k * 4 + 3, none⟩) hb).trans x3
          have hbl : b < wr.heap.size := Nat.lt_of_lt_of_le hb HBr.out.size
          have HEK := Keep.mk hek
          obtain ⟨uu, ucap', rfl, _, _⟩ := hu.len
          have HU := Keep.mk hu
          clear x0 x1 x2 x3 hek hu
          go_upto_region 6 with (fail)
          have hbs : Below wr.heap.size wr (wr.alloc (.cells #[.string e.op, .int .u32 e.num, .string e.name, .slice uu e.args.length ucap'] 42)) := (Below.refl _ _).alloc (Nat.le_refl _) _
          have HBs := Keep.mk (HBr.out.trans (hbs.mono HBr.out.size))
          have hZ : (wr.alloc (.cells #[.string e.op, .int .u32 e.num, .string e.name, .slice uu e.args.length ucap'] 42)).heap[wr.heap.size]? = some (.cells #[.string e.op, .int .u32 e.num, .string e.name, .slice uu e.args.length ucap'] 42 (0, 0)) := heap_alloc_new wr _
          have p0 : (wr.alloc (.cells #[.string e.op, .int .u32 e.num, .string e.name, .slice uu e.args.length ucap'] 42)).cell? ⟨wr.heap.size, 0, none⟩ = some (.string e.op) := by simp only [World.cell?, hZ]; rfl
          have p1 : (wr.alloc (.cells #[.string e.op, .int .u32 e.num, .string e.name, .slice uu e.args.length ucap'] 42)).cell? ⟨wr.heap.size, 1, none⟩ = some (.int .u32 e.num) := by simp only [World.cell?, hZ]; rfl
          have p2 : (wr.alloc (.cells #[.string e.op, .int .u32 e.num, .string e.name, .slice uu e.args.length ucap'] 42)).cell? ⟨wr.heap.size, 2, none⟩ = some (.string e.name) := by simp only [World.cell?, hZ]; rfl
          have p3 : (wr.alloc (.cells #[.string e.op, .int .u32 e.num, .string e.name, .slice uu e.args.length ucap'] 42)).cell? ⟨wr.heap.size, 3, none⟩ = some (.slice uu e.args.length ucap') := by simp only [World.cell?, hZ]; rfl
          have pl : wr.heap.size < (wr.alloc (.cells #[.string e.op, .int .u32 e.num, .string e.name, .slice uu e.args.length ucap'] 42)).heap.size := by simp
          clear hZ hbs z0 z1 z2 z3 hbl HBr
          generalize (wr.alloc (.cells #[.string e.op, .int .u32 e.num, .string e.name, .slice uu e.args.length ucap'] 42)) = ws at *
          have HI := Keep.mk (IH.out m (by omega) e _ ws (HU.out.below HBs.out (Nat.le_refl _)))
          clear IH
          go_wp2_with fail
          refine HI.out.mono ?_
          rintro _ w4 ⟨rfl, hb4⟩
          have HB4 := Keep.mk (HBs.out.trans (hb4.mono HBs.out.size))
          clear p0 p1 p2 p3 pl hb4
          cases hue : e.uses nm with
          | true =>
            have HT : Keep (z = true) := ⟨by rw [HZ.out]; exact usesL_some HEK.out hue⟩
            clear hue
            go_wp2_with fail
            go_ret
            exact ⟨by rw [HT.out]; rfl, HB4.out⟩
          | false =>
            have HN : Keep (usesL nm (args.take (k + 1)) = false) := ⟨by rw [usesL_step HEK.out, HU0.out, hue]; rfl⟩
            clear hue
            go_wp2_with fail
            go_roundw
            case rel => exact ⟨k + 1, by omega, by go_num, HN, HB4⟩
            case measure => simp [intOf]; omega
        · have hka : k = args.length := by omega
          subst hka
          rw [List.take_length] at HU0
          go_wp2_with fail
          go_ret
          exact ⟨by rw [HZ.out, HU0.out]; rfl, HBr.out⟩
  · have fop : (op.toList == [99, 97, 108, 108]) = false := by rw [eqs op (k := sCall) (by decide +kernel), decide_eq_false hop]
    have HZ : Keep (z = usesL nm args) := ⟨by rw [HS.out, decide_eq_false hop]; rfl⟩
    clear hop HS
    go_enter Try.func36, Try.ntmps36
    go_wp2_with fail
    go_loopw [19] (fun i wr => ∃ k : Nat, k ≤ args.length ∧ i = .int .i64 k ∧ Keep (usesL nm (args.take k) = false) ∧ Keep (Below w.heap.size w wr)) (fun i _ => args.length - (intOf i).toNat)
    case atStart => exact ⟨0, Nat.zero_le _, rfl, ⟨by rw [List.take_zero, usesL]⟩, HBa⟩
    case round =>
      obtain ⟨k, hk, rfl, HU0, HBr⟩ := hrel
      clear HBa
      by_cases hlt : k < args.length
      · have k0 : (0 : Int) ≤ k := by omega
        have k1 : (k : Int) < args.length := by omega
        obtain ⟨e, hek⟩ : ∃ e, args[k]? = some e := ⟨_, List.getElem?_eq_getElem hlt⟩
        obtain ⟨m, b, o, cap, u, hnm, hua, hb, x0, x1, x2, x3, hu⟩ := HE.out.get hek
        simp only [Value.slice.injEq, true_and] at hua
        obtain ⟨rfl, rfl⟩ := hua
        have z0 := (HBr.out.cell (p := ⟨b, o + k * 4, none⟩) hb).trans x0
        have z1 := (HBr.out.cell (p := ⟨b, o + k * 4 + 1, none⟩) hb).trans x1
        have z2 := (HBr.out.cell (p := ⟨b, o + k * 4 + 2, none⟩) hb).trans x2
        have z3 := (HBr.out.cell (p := ⟨b, o + k * 4 + 3, none⟩) hb).trans x3
        have hbl : b < wr.heap.size := Nat.lt_of_lt_of_le hb HBr.out.size
        have HEK := Keep.mk hek
        obtain ⟨uu, ucap', rfl, _, _⟩ := hu.len
        have HU := Keep.mk hu
        clear x0 x1 x2 x3 hek hu
        go_upto_region 6 with (fail)
        have hbs : Below wr.heap.size wr (wr.alloc (.cells #[.string e.op, .int .u32 e.num, .string e.name, .slice uu e.args.length ucap'] 42)) := (Below.refl _ _).alloc (Nat.le_refl _) _
        have HBs := Keep.mk (HBr.out.trans (hbs.mono HBr.out.size))
        have hZ : (wr.alloc (.cells #[.string e.op, .int .u32 e.num, .string e.name, .slice uu e.args.length ucap'] 42)).heap[wr.heap.size]? = some (.cells #[.string e.op, .int .u32 e.num, .string e.name, .slice uu e.args.length ucap'] 42 (0, 0)) := heap_alloc_new wr _
        have p0 : (wr.alloc (.cells #[.string e.op, .int .u32 e.num, .string e.name, .slice uu e.args.length ucap'] 42)).cell? ⟨wr.heap.size, 0, none⟩ = some (.string e.op) := by simp only [World.cell?, hZ]; rfl
        have p1 : (wr.alloc (.cells #[.string e.op, .int .u32 e.num, .string e.name, .slice uu e.args.length ucap'] 42)).cell? ⟨wr.heap.size, 1, none⟩ = some (.int .u32 e.num) := by simp only [World.cell?, hZ]; rfl
        have p2 : (wr.alloc (.cells #[.string e.op, .int .u32 e.num, .string e.name, .slice uu e.args.length ucap'] 42)).cell? ⟨wr.heap.size, 2, none⟩ = some (.string e.name) := by simp only [World.cell?, hZ]; rfl
        have p3 : (wr.alloc (.cells #[.string e.op, .int .u32 e.num, .string e.name, .slice uu e.args.length ucap'] 42)).cell? ⟨wr.heap.size, 3, none⟩ = some (.slice uu e.args.length ucap') := by simp only [World.cell?, hZ]; rfl
        have pl : wr.heap.size < (wr.alloc (.cells #[.string e.op, .int .u32 e.num, .string e.name, .slice uu e.args.length ucap'] 42)).heap.size := by simp
        clear hZ hbs z0 z1 z2 z3 hbl HBr
        generalize (wr.alloc (.cells #[.string e.op, .int .u32 e.num, .string e.name, .slice uu e.args.length ucap'] 42)) = ws at *
        have HI := Keep.mk (IH.out m (by omega) e _ ws (HU.out.below HBs.out (Nat.le_refl _)))
        clear IH
        go_wp2_with fail
        refine HI.out.mono ?_
        rintro _ w4 ⟨rfl, hb4⟩
        have HB4 := Keep.mk (HBs.out.trans (hb4.mono HBs.out.size))
        clear p0 p1 p2 p3 pl hb4
        cases hue : e.uses nm with
        | true =>
          have HT : Keep (z = true) := ⟨by rw [HZ.out]; exact usesL_some HEK.out hue⟩
          clear hue
          go_wp2_with fail
          go_ret
          exact ⟨by rw [HT.out]; rfl, HB4.out⟩
        | false =>
          have HN : Keep (usesL nm (args.take (k + 1)) = false) := ⟨by rw [usesL_step HEK.out, HU0.out, hue]; rfl⟩
          clear hue
          go_wp2_with fail
          go_roundw
          case rel => exact ⟨k + 1, by omega, by go_num, HN, HB4⟩
          case measure => simp [intOf]; omega
      · have hka : k = args.length := by omega
        subst hka
        rw [List.take_length] at HU0
        go_wp2_with fail
        go_ret
        exact ⟨by rw [HZ.out, HU0.out]; rfl, HBr.out⟩
set_option maxHeartbeats 16000000 in
/-- Do statements call a function? -/
theorem mentions_any (nm : ByteArray) (n : Nat) : ∀ (l : List St) (u : Value) (w : World), StsAt w n u l → szS l ≤ 1000000000 →
    Calls Try.prog 20 #[u, .string nm] w fun e' w' => e' = .returned (.bool (usesS nm l)) ∧ Below w.heap.size w w' := by
  induction n using Nat.strongRecOn with
  | ind n ih =>
  intro l u w hE hz
  obtain ⟨ua, ucap, rfl, hu1, hu2⟩ := hE.len
  have HE := Keep.mk hE
  have IH := Keep.mk ih
  have HZ := Keep.mk hz
  unfold maxLen at hu2
  clear hE ih hz
  obtain ⟨i0, hi, hz0, hz1, hz2⟩ := info_parts Try.infoExpr
  go_enter Try.func20, Try.ntmps20
  have HB0 := Keep.mk (Below.refl w.heap.size w)
  go_wp2_with fail
  go_loopw [11] (fun i wr => ∃ k : Nat, k ≤ l.length ∧ i = .int .i64 k ∧ Keep (usesS nm (l.take k) = false) ∧ Keep (Below w.heap.size w wr)) (fun i _ => l.length - (intOf i).toNat)
  case atStart => exact ⟨0, Nat.zero_le _, rfl, ⟨by rw [List.take_zero, usesS]⟩, HB0⟩
  case round =>
    obtain ⟨k, hk, rfl, HU0, HBr⟩ := hrel
    clear HB0
    by_cases hlt : k < l.length
    · have k0 : (0 : Int) ≤ k := by omega
      have k1 : (k : Int) < l.length := by omega
      obtain ⟨s, hsk⟩ : ∃ s, l[k]? = some s := ⟨_, List.getElem?_eq_getElem hlt⟩
      obtain ⟨m, b, o, cap, ui, uv, ut, ue, hnm, hua, hb, x0, x1, x2, x3, x4, x5, hI, hV, hT, hEl⟩ := HE.out.get hsk
      simp only [Value.slice.injEq, true_and] at hua
      obtain ⟨rfl, rfl⟩ := hua
      have HSK := Keep.mk hsk
      have hsz := szS_get hsk
      clear hsk
      obtain ⟨kd, name, index, value, thn, els⟩ := s
      change ∃ m, ExsAt w m ui index at hI
      change ∃ m, ExsAt w m uv value at hV
      change StsAt w m ut thn at hT
      change StsAt w m ue els at hEl
      obtain ⟨mi, hI⟩ := hI
      obtain ⟨mv, hV⟩ := hV
      change w.cell? ⟨b, o + k * 6, none⟩ = some (.int .i64 kd) at x0
      change w.cell? ⟨b, o + k * 6 + 1, none⟩ = some (.string name) at x1
      have z0 := (HBr.out.cell (p := ⟨b, o + k * 6, none⟩) hb).trans x0
      have z1 := (HBr.out.cell (p := ⟨b, o + k * 6 + 1, none⟩) hb).trans x1
      have z2 := (HBr.out.cell (p := ⟨b, o + k * 6 + 2, none⟩) hb).trans x2
      have z3 := (HBr.out.cell (p := ⟨b, o + k * 6 + 3, none⟩) hb).trans x3
      have z4 := (HBr.out.cell (p := ⟨b, o + k * 6 + 4, none⟩) hb).trans x4
      have z5 := (HBr.out.cell (p := ⟨b, o + k * 6 + 5, none⟩) hb).trans x5
      have hbl : b < wr.heap.size := Nat.lt_of_lt_of_le hb HBr.out.size
      obtain ⟨ia, ic, rfl, _, _⟩ := hI.len
      obtain ⟨va, vc, rfl, _, _⟩ := hV.len
      obtain ⟨ta, tc, rfl, _, _⟩ := hT.len
      obtain ⟨ea, ec, rfl, _, _⟩ := hEl.len
      obtain ⟨cI, HSI, HRI⟩ := hI.slc
      obtain ⟨cV, HSV, HRV⟩ := hV.slc
      have HII := Keep.mk (And.intro HSI HRI)
      have HVV := Keep.mk (And.intro HSV HRV)
      have HT := Keep.mk hT
      have HEl := Keep.mk hEl
      have hmn : m < n := by omega
      have HUS : Keep ((St.mk kd name index value thn els).uses nm = (usesL nm (value ++ index) || (usesS nm thn || usesS nm els))) := ⟨by rw [St.uses]⟩
      have hszs : (St.mk kd name index value thn els).sz = 1 + name.size / 8 + szS thn + szS els + szL value + szL index := by rw [St.sz]
      have hb1 : szS thn ≤ 1000000000 ∧ szS els ≤ 1000000000 ∧ value.length + index.length ≤ 1000000000 := by
        have h0 := HZ.out
        have h1 := length_szL value
        have h2 := length_szL index
        omega
      obtain ⟨hbt, hbe, hbl2⟩ := hb1
      clear x0 x1 x2 x3 x4 x5 hI hV hT hEl hnm HSI HRI HSV HRV hszs hsz
      go_upto_region 4 with (fail)
      obtain ⟨wz, hwz⟩ : ∃ wz, wz = (wr.alloc (.cells #[.int .i64 kd, .string name, .slice ia index.length ic, .slice va value.length vc, .slice ta thn.length tc, .slice ea els.length ec] 46)) := ⟨_, rfl⟩
      rw [← hwz]
      have hbz : Below wr.heap.size wr wz := by rw [hwz]; exact (Below.refl _ _).alloc (Nat.le_refl _) _
      have hZ : wz.heap[wr.heap.size]? = some (.cells #[.int .i64 kd, .string name, .slice ia index.length ic, .slice va value.length vc, .slice ta thn.length tc, .slice ea els.length ec] 46 (0, 0)) := by rw [hwz]; exact heap_alloc_new wr _
      have HBc := Keep.mk (HBr.out.trans (hbz.mono HBr.out.size))
      have hzl : wr.heap.size < wz.heap.size := (Array.getElem?_eq_some_iff.1 hZ).1
      have HSc : Keep (∀ w', Below wz.heap.size wz w' → (w'.cell? ⟨wr.heap.size, 3, none⟩ = some (.slice va value.length vc) ∧ w'.cell? ⟨wr.heap.size, 2, none⟩ = some (.slice ia index.length ic)) ∧ Below wz.heap.size wz w') := ⟨fun w' hb => by
        have e := (hb.block wr.heap.size hzl).trans hZ
        exact ⟨⟨by simp [World.cell?, e], by simp [World.cell?, e]⟩, hb⟩⟩
      have HSt : Keep (∀ w', Below wz.heap.size wz w' → w'.cell? ⟨wr.heap.size, 4, none⟩ = some (.slice ta thn.length tc) ∧ w'.cell? ⟨wr.heap.size, 5, none⟩ = some (.slice ea els.length ec) ∧ wr.heap.size < w'.heap.size) := ⟨fun w' hb => by
        have e := (hb.block wr.heap.size hzl).trans hZ
        exact ⟨by simp [World.cell?, e], by simp [World.cell?, e], (Array.getElem?_eq_some_iff.1 e).1⟩⟩
      have hA0 : (wz.alloc (.cells #[] 42)).drew.ownsRow wz.heap.size 42 4 (.slice (some ⟨wz.heap.size, 0, none⟩) 0 0) 0 [] := World.ownsRow_made (base := wz.heap.size) (e := 42) (size := 4) wz #[] 0 (Nat.le_refl _) (by decide) rfl
      have HA0 := Keep.mk hA0
      have hb0 : Below wz.heap.size wz (wz.alloc (.cells #[] 42)).drew := ((Below.refl _ _).alloc (Nat.le_refl _) _).drew
      have HBA0 := Keep.mk hb0
      clear hA0 hb0 hwz hbz hZ z0 z1 z2 z3 z4 z5 hbl HBr
      go_region_held3 (fun w' => (w'.cell? ⟨wr.heap.size, 3, none⟩ = some (.slice va value.length vc) ∧ w'.cell? ⟨wr.heap.size, 2, none⟩ = some (.slice ia index.length ic)) ∧ Below wz.heap.size wz w')
        (first | with_reducible exact HSc.out _ (Below.refl wz.heap.size wz).drew | with_reducible exact HSc.out _ (Below.refl wz.heap.size wz) | with_reducible exact HSc.out _ HBA0.out | with_reducible exact HSc.out _ H5.out.2 | with_reducible exact HSc.out _ H6.out.2 | with_reducible assumption)
        (first
          | (rw [if_pos (by rfl)]; (refine wp_append_slc2 (.tmp 15) (.tmp 17) 40 rfl wz.heap.size 42 i0 (.agg #[.string ⟨#[]⟩, .int .u32 0, .string ⟨#[]⟩, .slice none 0 0]) 4 64 Try.underlying40 hi hz0 hz1 hz2 rfl (by decide) _ 0 [] rfl HA0.out _ value.length cV rfl (HVV.out.1.below (HBc.out.trans (HBA0.out.mono HBc.out.size)) (Nat.le_refl _)) HVV.out.2.one (by unfold maxLen; omega) (by omega) HBA0.out.size ?_); intro v5 w5 hown5 hg5 hv5; have H5 := Keep.mk (And.intro hown5 (below_append HBA0.out HBA0.out.size HA0.out (Nat.le_refl _) hg5)); clear hown5 hg5 hv5)
          | (rw [if_pos (by rfl)]; (refine wp_append_slc2 (.tmp 18) (.tmp 20) 40 rfl wz.heap.size 42 i0 (.agg #[.string ⟨#[]⟩, .int .u32 0, .string ⟨#[]⟩, .slice none 0 0]) 4 64 Try.underlying40 hi hz0 hz1 hz2 rfl (by decide) _ (0 + value.length) ([] ++ cV) rfl H5.out.1 _ index.length cI rfl (HII.out.1.below (HBc.out.trans (H5.out.2.mono HBc.out.size)) (Nat.le_refl _)) HII.out.2.one (by unfold maxLen; omega) (by omega) H5.out.2.size ?_); intro v6 w6 hown6 hg6 hv6; obtain ⟨a6, c6, rfl⟩ := ownsRow_slice hown6; have H6 := Keep.mk (And.intro hown6 (below_append H5.out.2 H5.out.2.size H5.out.1 (Nat.le_refl _) hg6)); clear hown6 hg6 hv6))
      have HB6 := Keep.mk (HBc.out.trans (H6.out.2.mono HBc.out.size))
      obtain ⟨nj, hJ⟩ := exs_joined (l1 := value) (l2 := index) HVV.out.2 HII.out.2 HB6.out (by simpa using H6.out.1)
      have HJ := Keep.mk hJ
      have HB6z := Keep.mk H6.out.2
      clear hJ HSc HA0 HBA0 H5 H6 HVV HII HB6
      obtain ⟨L, hL⟩ : ∃ L, L = value ++ index := ⟨_, rfl⟩
      rw [← hL] at HJ HUS
      have e1 : 0 + value.length + index.length = L.length := by rw [hL, List.length_append]; omega
      have e2 : (value.length : Int) + (index.length : Int) = (L.length : Int) := by rw [hL, List.length_append]; omega
      have e3 : value.length + index.length = L.length := by rw [hL, List.length_append]
      have hLb : L.length ≤ 1000000000 := by omega
      have HZ0 := Keep.mk (And.intro hlt hk)
      rw [e1, e2]
      rw [e3] at HJ
      clear e1 e2 e3 hL hbl2 hzl
      obtain ⟨Z, hZ⟩ : ∃ Z, Z = wr.heap.size := ⟨_, rfl⟩
      rw [← hZ] at HSt ⊢
      clear hZ
      generalize wr = wo at *
      go_wp2_with fail
      go_loopw [23] (fun i wr => ∃ j : Nat, j ≤ L.length ∧ i = .int .i64 j ∧ Keep (usesL nm (L.take j) = false) ∧ Keep (Below wz.heap.size wz wr) ∧ Keep (ExsAt wr nj (.slice a6 L.length c6) L)) (fun i _ => L.length - (intOf i).toNat)
      case atStart => exact ⟨0, Nat.zero_le _, rfl, ⟨by rw [List.take_zero, usesL]⟩, HB6z, HJ⟩
      case round =>
        obtain ⟨j, hj, rfl, HUj, HBr, HJr⟩ := hrel
        clear HB6z HJ
        by_cases hlj : j < L.length
        · have j0 : (0 : Int) ≤ j := by omega
          have j1 : (j : Int) < L.length := by omega
          obtain ⟨e, hej⟩ : ∃ e, L[j]? = some e := ⟨_, List.getElem?_eq_getElem hlj⟩
          obtain ⟨me, b', o', cap', u, hme, hua, hb', z0, z1, z2, z3, hu⟩ := HJr.out.get hej
          simp only [Value.slice.injEq, true_and] at hua
          obtain ⟨rfl, rfl⟩ := hua
          have HEJ := Keep.mk hej
          obtain ⟨uu, ucap', rfl, _, _⟩ := hu.len
          have HU := Keep.mk hu
          clear hej hu hme
          go_upto_region 7 with (fail)
          have hbs : Below wr.heap.size wr (wr.alloc (.cells #[.string e.op, .int .u32 e.num, .string e.name, .slice uu e.args.length ucap'] 42)) := (Below.refl _ _).alloc (Nat.le_refl _) _
          have HBs := Keep.mk (HBr.out.trans (hbs.mono HBr.out.size))
          have HJs := Keep.mk (HJr.out.below hbs (Nat.le_refl _))
          have HUs := Keep.mk (HU.out.below hbs (Nat.le_refl _))
          have hZ : (wr.alloc (.cells #[.string e.op, .int .u32 e.num, .string e.name, .slice uu e.args.length ucap'] 42)).heap[wr.heap.size]? = some (.cells #[.string e.op, .int .u32 e.num, .string e.name, .slice uu e.args.length ucap'] 42 (0, 0)) := heap_alloc_new wr _
          have p0 : (wr.alloc (.cells #[.string e.op, .int .u32 e.num, .string e.name, .slice uu e.args.length ucap'] 42)).cell? ⟨wr.heap.size, 0, none⟩ = some (.string e.op) := by simp only [World.cell?, hZ]; rfl
          have p1 : (wr.alloc (.cells #[.string e.op, .int .u32 e.num, .string e.name, .slice uu e.args.length ucap'] 42)).cell? ⟨wr.heap.size, 1, none⟩ = some (.int .u32 e.num) := by simp only [World.cell?, hZ]; rfl
          have p2 : (wr.alloc (.cells #[.string e.op, .int .u32 e.num, .string e.name, .slice uu e.args.length ucap'] 42)).cell? ⟨wr.heap.size, 2, none⟩ = some (.string e.name) := by simp only [World.cell?, hZ]; rfl
          have p3 : (wr.alloc (.cells #[.string e.op, .int .u32 e.num, .string e.name, .slice uu e.args.length ucap'] 42)).cell? ⟨wr.heap.size, 3, none⟩ = some (.slice uu e.args.length ucap') := by simp only [World.cell?, hZ]; rfl
          have pl : wr.heap.size < (wr.alloc (.cells #[.string e.op, .int .u32 e.num, .string e.name, .slice uu e.args.length ucap'] 42)).heap.size := by simp
          clear hZ hbs z0 z1 z2 z3 HBr HJr HU hb'
          generalize (wr.alloc (.cells #[.string e.op, .int .u32 e.num, .string e.name, .slice uu e.args.length ucap'] 42)) = ws at *
          have HI := Keep.mk (uses_any nm me e _ ws HUs.out)
          go_wp2_with fail
          refine HI.out.mono ?_
          rintro _ w4 ⟨rfl, hb4⟩
          have HB4 := Keep.mk (HBs.out.trans (hb4.mono HBs.out.size))
          have HJ4 := Keep.mk (HJs.out.below hb4 (Nat.le_refl _))
          clear p0 p1 p2 p3 pl hb4
          cases hue : e.uses nm with
          | true =>
            have HTT : Keep (usesS nm l = true) := ⟨usesS_some HSK.out (by rw [HUS.out, usesL_some HEJ.out hue]; rfl)⟩
            have HBF := Keep.mk (HBc.out.trans (HB4.out.mono HBc.out.size))
            clear hue
            go_wp2_with fail
            go_ret
            exact ⟨by rw [HTT.out]; rfl, HBF.out⟩
          | false =>
            have HN : Keep (usesL nm (L.take (j + 1)) = false) := ⟨by rw [usesL_step HEJ.out, HUj.out, hue]; rfl⟩
            clear hue
            go_wp2_with fail
            go_roundw
            case rel => exact ⟨j + 1, by omega, by go_num, HN, HB4, HJ4⟩
            case measure => simp [intOf]; omega
        · have hja : j = L.length := by omega
          subst hja
          rw [List.take_length] at HUj
          have HUS2 : Keep ((St.mk kd name index value thn els).uses nm = (usesS nm thn || usesS nm els)) := ⟨by rw [HUS.out, HUj.out]; rfl⟩
          have HI1 := Keep.mk (IH.out m hmn thn _ wr (HT.out.below (HBc.out.trans (HBr.out.mono HBc.out.size)) (Nat.le_refl _)) hbt)
          obtain ⟨t4, _, tl⟩ := HSt.out _ HBr.out
          clear HUS HUj HJr
          go_wp2_with fail
          refine HI1.out.mono ?_
          rintro _ w7 ⟨rfl, hb7⟩
          have HB7 := Keep.mk (HBr.out.trans (hb7.mono HBr.out.size))
          clear hb7 t4 tl HI1 HBr
          cases hut : usesS nm thn with
          | true =>
            have HTT : Keep (usesS nm l = true) := ⟨usesS_some HSK.out (by rw [HUS2.out, hut]; rfl)⟩
            have HBF := Keep.mk (HBc.out.trans (HB7.out.mono HBc.out.size))
            clear hut
            go_wp2_with fail
            go_ret
            exact ⟨by rw [HTT.out]; rfl, HBF.out⟩
          | false =>
            have HUS3 : Keep ((St.mk kd name index value thn els).uses nm = usesS nm els) := ⟨by rw [HUS2.out, hut]; rfl⟩
            have HI2 := Keep.mk (IH.out m hmn els _ w7 (HEl.out.below (HBc.out.trans (HB7.out.mono HBc.out.size)) (Nat.le_refl _)) hbe)
            obtain ⟨_, t5, tl⟩ := HSt.out _ HB7.out
            clear hut HUS2
            go_wp2_with fail
            refine HI2.out.mono ?_
            rintro _ w8 ⟨rfl, hb8⟩
            have HB8 := Keep.mk (HB7.out.trans (hb8.mono HB7.out.size))
            have HBF := Keep.mk (HBc.out.trans (HB8.out.mono HBc.out.size))
            clear hb8 t5 tl HI2 HB7
            cases hue : usesS nm els with
            | true =>
              have HTT : Keep (usesS nm l = true) := ⟨usesS_some HSK.out (by rw [HUS3.out, hue])⟩
              clear hue
              go_wp2_with fail
              go_ret
              exact ⟨by rw [HTT.out]; rfl, HBF.out⟩
            | false =>
              have HN : Keep (usesS nm (l.take (k + 1)) = false) := ⟨by rw [usesS_step HSK.out, HU0.out, HUS3.out, hue]; rfl⟩
              clear hue
              go_wp2_with fail
              go_roundw
              case rel => exact ⟨k + 1, by omega, by go_num, HN, HBF⟩
              case measure => simp [intOf]; omega
    · have hka : k = l.length := by omega
      subst hka
      rw [List.take_length] at HU0
      go_wp2_with fail
      go_ret
      exact ⟨by rw [HU0.out]; rfl, HBr.out⟩
end Go.Proofs.Ytgimdbflpdmlmaa
