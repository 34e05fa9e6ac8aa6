/- The reference's calls and callees: the names that expressions and statements call. Condition: bounds. -/
import Derived.Test.YtgimdbflpdmlmaaRuCheckMath
import Derived.Test.YtgimdbflpdmlmaaCkSize
import Derived.Test.YtgimdbflpdmlmaaRuBody
namespace Go.Proofs.Ytgimdbflpdmlmaa
set_option maxRecDepth 100000
open Go.RowKit Go.Shelf Go.Proofs.Ytgimdbflpdmlmaa.Ck

set_option maxHeartbeats 32000000 in
theorem calls_any (n : Nat) : ∀ (e : Ex) (u : Value) (w : World), ExsAt w n u e.args → e.nodes ≤ 1000000 →
    Calls Try.prog 69 #[.agg #[.string e.op, .int .u32 e.num, .string e.name, u]] w fun e' w' => ∃ v, e' = .returned v ∧ Strs w' v (callsE e) ∧ Below w.heap.size w w' := by
  induction n using Nat.strongRecOn with
  | ind n ih =>
  intro e u w hE hnodes
  obtain ⟨op, num, name, args⟩ := e
  change ExsAt w n u args at hE
  change Calls Try.prog 69 #[.agg #[.string op, .int .u32 num, .string name, u]] w _
  obtain ⟨ua, ucap, rfl, hu1, hu2⟩ := hE.len
  have HE' := Keep.mk hE
  have IH := Keep.mk ih
  have hnl : (Ex.mk op num name args).nodes = 1 + nodesL args := by rw [Ex.nodes]
  have HND : Keep (nodesL args < 1000000) := ⟨by omega⟩
  have hal : args.length ≤ 1000000 := by have := length_nodesL args; have := HND.out; omega
  have HCE : Keep (callsE (Ex.mk op num name args) = (if op = sCall then [name] else []) ++ callsL args) := ⟨by rw [callsE]⟩
  unfold maxLen at hu2
  clear hE ih hnl hnodes
  go_enter Try.func69, Try.ntmps69
  have hX := heap_alloc_new w (.cells #[.string op, .int .u32 num, .string name, .slice ua args.length ucap] 42)
  have hb0 : Below w.heap.size w (w.alloc (.cells #[.string op, .int .u32 num, .string name, .slice ua args.length ucap] 42)) := (Below.refl _ _).alloc (Nat.le_refl _) _
  have hz0' : (w.alloc (.cells #[.string op, .int .u32 num, .string name, .slice ua args.length ucap] 42)).heap.size = w.heap.size + 1 := World.size_alloc ..
  go_upto_region 1 with (fail)
  generalize (w.alloc (.cells #[.string op, .int .u32 num, .string name, .slice ua args.length ucap] 42)) = w0 at *
  have HR0 : Keep (OwnStrs (w.heap.size + 1) (w0.alloc (.cells #[] 9)) (.slice (some ⟨w0.heap.size, 0, none⟩) 0 0) []) := ⟨World.ownsRow_made (base := w.heap.size + 1) (e := 9) (size := 1) w0 #[] 0 (by omega) (by decide) rfl⟩
  have hb1 : Below w0.heap.size w0 (w0.alloc (.cells #[] 9)) := (Below.refl _ _).alloc (Nat.le_refl _) _
  have HB := Keep.mk (hb0.trans (hb1.mono hb0.size))
  have HX := Keep.mk ((hb1.block w.heap.size (by omega)).trans hX)
  clear hX hb0 hb1 hz0'
  go_upto_region 2 with (fail)
  generalize (w0.alloc (.cells #[] 9)) = w1 at *
  have x0 : w1.cell? ⟨w.heap.size, 0, none⟩ = some (.string op) := by simp [World.cell?, HX.out]
  have x2 : w1.cell? ⟨w.heap.size, 2, none⟩ = some (.string name) := by simp [World.cell?, HX.out]
  have xl : w.heap.size < w1.heap.size := (Array.getElem?_eq_some_iff.1 HX.out).1
  obtain ⟨tb, htb⟩ : ∃ tb, tb = (op.toList == [99, 97, 108, 108]) := ⟨_, rfl⟩
  have HTB : Keep (tb = decide (op = sCall)) := ⟨by rw [htb, eqs op (k := sCall) (by decide +kernel)]⟩
  go_upto_if 9 with (fail)
  rw [← htb]
  clear htb x0
  go_cut [3] from 10 to 14 (fun s3 wx => ∃ l0, Keep (l0 = (if op = sCall then [name] else [])) ∧ Keep (OwnStrs (w.heap.size + 1) wx s3 l0) ∧ Keep (Below w.heap.size w wx) ∧ Keep (wx.heap[w.heap.size]? = some (.cells #[.string op, .int .u32 num, .string name, .slice ua args.length ucap] 42 (0, 0))))
  case first =>
    cases tb with
    | true =>
      have HOP : Keep (op = sCall) := ⟨by simpa using HTB.out⟩
      clear HTB
      go_wp2_with (at_builtin; go_must (refine wpList_append_ownstrs rfl _ _ rfl rfl (HR0.out.alloc _) rfl (Strs.made _ [name] 9 (show (1 : Nat) ≤ maxLen by decide)) (show (1 : Nat) ≤ 1000000 by decide) (by simp; omega) ?_); intro v5 w5 hO5 hB5; have H5 := Keep.mk (And.intro hO5 hB5); clear hO5 hB5)
      go_meet
      have hba : Below w1.heap.size w1 (w1.alloc (.cells #[.string name] 9)) := (Below.refl _ _).alloc (Nat.le_refl _) _
      exact ⟨[name], ⟨by rw [if_pos HOP.out]⟩, ⟨H5.out.1⟩, ⟨(HB.out.trans (hba.mono HB.out.size)).trans (H5.out.2.mono (Nat.le_succ _))⟩, ⟨(H5.out.2.block w.heap.size (Nat.lt_succ_self _)).trans ((hba.block w.heap.size xl).trans HX.out)⟩⟩
    | false =>
      have HOP : Keep (op ≠ sCall) := ⟨by simpa using HTB.out⟩
      clear HTB
      go_wp2_with fail
      go_meet
      exact ⟨[], ⟨by rw [if_neg HOP.out]⟩, HR0, HB, HX⟩
  case rest =>
    clear HTB HR0 HB HX x2 xl
    obtain ⟨l0, HL0, HR, HB, HX⟩ := hcut
    clear w1
    generalize wc = w1 at *
    have HL1 : Keep (l0.length ≤ 1) := ⟨by rw [HL0.out]; split <;> simp⟩
    rw [← HL0.out] at HCE
    clear HL0
    have x3 : w1.cell? ⟨w.heap.size, 3, none⟩ = some (.slice ua args.length ucap) := by simp [World.cell?, HX.out]
    have xl : w.heap.size < w1.heap.size := (Array.getElem?_eq_some_iff.1 HX.out).1
    go_wp2_with fail
    clear x3 xl
    go_loopw [18, 3] (fun i s3 wr => ∃ k : Nat, k ≤ args.length ∧ i = .int .i64 k ∧ Keep (OwnStrs (w.heap.size + 1) wr s3 (l0 ++ callsL (args.take k))) ∧ Keep (Below w.heap.size w wr)) (fun i _ _ => args.length - (intOf i).toNat)
    case atStart => exact ⟨0, Nat.zero_le _, rfl, ⟨by rw [List.take_zero, callsL, List.append_nil]; exact HR.out⟩, HB⟩
    case round =>
      clear HR HB HX
      obtain ⟨k, hk, rfl, HR, HB⟩ := hrel
      obtain ⟨ra, rc, rfl⟩ := ownsRow_slice HR.out
      by_cases hlt : k < args.length
      · have k0 : (0 : Int) ≤ k := by omega
        have k1 : (k : Int) < args.length := by omega
        obtain ⟨e, hek⟩ : ∃ e, args[k]? = some e := ⟨_, List.getElem?_eq_getElem hlt⟩
        obtain ⟨m, b, o, cap, u, hnm, hua, hb, x0, x1, x2, x3, hu⟩ := HE'.out.get hek
        simp only [Value.slice.injEq, true_and] at hua
        obtain ⟨rfl, rfl⟩ := hua
        have z0 := (HB.out.cell (p := ⟨b, o + k * 4, none⟩) hb).trans x0
        have z1 := (HB.out.cell (p := ⟨b, o + k * 4 + 1, none⟩) hb).trans x1
        have z2 := (HB.out.cell (p := ⟨b, o + k * 4 + 2, none⟩) hb).trans x2
        have z3 := (HB.out.cell (p := ⟨b, o + k * 4 + 3, none⟩) hb).trans x3
        have hbl : b < wr.heap.size := Nat.lt_of_lt_of_le hb HB.out.size
        obtain ⟨uu, ucap', rfl, _, _⟩ := hu.len
        have HI : Keep (∀ wx, Below w.heap.size w wx → Calls Try.prog 69 #[.agg #[.string e.op, .int .u32 e.num, .string e.name, .slice uu e.args.length ucap']] wx fun e' w' => ∃ v, e' = .returned v ∧ Strs w' v (callsE e) ∧ Below wx.heap.size wx w') := ⟨fun wx hx => IH.out m (by omega) e _ wx (hu.below hx (Nat.le_refl _)) (by have := nodesL_get hek; have := HND.out; omega)⟩
        have HNX : Keep (l0 ++ callsL (args.take (k + 1)) = (l0 ++ callsL (args.take k)) ++ callsE e) := ⟨by rw [callsL_step hek, List.append_assoc]⟩
        have HLN : Keep ((l0 ++ callsL (args.take k)).length + (callsE e).length ≤ 1000000) := ⟨by
          have h1 := callsL_len (args.take (k + 1))
          have h2 := nodesL_append (args.take (k + 1)) (args.drop (k + 1))
          rw [List.take_append_drop] at h2
          have h3 := HND.out
          have h4 := HL1.out
          rw [callsL_step hek, List.length_append] at h1
          rw [List.length_append]
          omega⟩
        have HBs : Keep (Below w.heap.size w (wr.alloc (.cells #[.string e.op, .int .u32 e.num, .string e.name, .slice uu e.args.length ucap'] 42))) := ⟨HB.out.alloc HB.out.size _⟩
        have HRs : Keep (OwnStrs (w.heap.size + 1) (wr.alloc (.cells #[.string e.op, .int .u32 e.num, .string e.name, .slice uu e.args.length ucap'] 42)) (.slice ra (l0 ++ callsL (args.take k)).length rc) (l0 ++ callsL (args.take k))) := ⟨HR.out.alloc _⟩
        clear x0 x1 x2 x3 hek hu hb
        generalize l0 ++ callsL (args.take k) = L at *
        generalize callsE e = Ce at *
        go_wp2_with fail
        refine (HI.out _ HBs.out).mono ?_
        rintro _ w5 ⟨v5, rfl, hS5, hb5⟩
        have HB5 := Keep.mk (HBs.out.trans (hb5.mono HBs.out.size))
        have HR5 : Keep (OwnStrs (w.heap.size + 1) w5 (.slice ra L.length rc) L) := ⟨World.ownsRow.kept HRs.out (grown_none hb5) (by cases hq : Value.ownBlock (.slice ra L.length rc) <;> simp)⟩
        have HS5 := Keep.mk hS5
        have hw5 : w.heap.size + 1 ≤ w5.heap.size := by have h1 := hb5.size; rw [World.size_alloc] at h1; have := HB.out.size; omega
        clear z0 z1 z2 z3 hbl hb5 HI hS5
        obtain ⟨va, vc, rfl, _, _⟩ := HS5.out.len
        go_wp2_with (at_builtin; go_must (refine wpList_append_ownstrs rfl _ _ rfl rfl HR5.out rfl HS5.out HLN.out hw5 ?_); intro v6 w6 hO6 hB6; have H6 := Keep.mk (And.intro hO6 hB6); clear hO6 hB6)
        go_roundw
        case rel => exact ⟨k + 1, by omega, by go_num, ⟨by rw [HNX.out]; exact H6.out.1⟩, ⟨HB5.out.trans (H6.out.2.mono (Nat.le_succ _))⟩⟩
        case measure => simp [intOf]; omega
      · obtain rfl : k = args.length := by omega
        rw [List.take_length, ← HCE.out] at HR ⊢
        have HSR := Keep.mk HR.out.strs
        generalize (callsE (Ex.mk op num name args)).length = ln at *
        go_wp2_with fail
        go_ret
        exact ⟨_, rfl, HSR.out, HB.out⟩

/-- Strings appended to a row of the call's own: what else is written. -/
theorem wpList_append_gstrs {ops : Array Oper} {rest : List Oper} {o : Oper} {a : Act} {w : World} {Q : Exit → Act → World → Prop} (hgd : o.guard = none) (s x : Operand)
    (ho : o.op = .call { callee := .builtin .append, args := #[s, x], argTypes := #[22, 22] })
    {base : Nat} {v : Value} {l : List ByteArray} (hs : a.eval s = v) (hown : OwnStrs base w v l) {u : Value} {m : List ByteArray} (hx : a.eval x = u) (hu : Strs w u m)
    (hn : l.length + m.length ≤ 1000000) (hbase : base ≤ w.heap.size)
    (h : ∀ v' w', OwnStrs base w' v' (l ++ m) → w.grownBy w' v.ownBlock → (v'.ownBlock = v.ownBlock ∨ v'.ownBlock = some w.heap.size) → wpList Try.prog ops Q rest (a.put o.dst v') w') : wpList Try.prog ops Q (o :: rest) a w := by
  obtain ⟨i0, hi, hz0, hz1, hz2⟩ := info_parts Try.infoStrS
  refine wpList_append_slc hgd s x 22 ho base 9 i0 (.string ⟨#[]⟩) 1 16 Try.underlying22 hi hz0 hz1 hz2 rfl (by decide) v l.length (strCells l) hs hown u m.length (strCells m) hx hu.slc (by simp [strCells, Value.oneCell']) (by unfold maxLen; omega) (by omega) hbase ?_
  intro v' w' hown' hg hv
  refine h v' w' ?_ hg hv
  unfold OwnStrs
  rw [List.length_append]
  simpa [strCells] using hown'
/-- A row that grows: what has been written since w6 but r0 stays. -/
structure RowOn (w6 wr : World) (r0 : Option Nat) (s : Value) : Prop where
  g : w6.grownBy wr r0
  o : ∀ q, s.ownBlock = some q → w6.heap.size ≤ q ∨ r0 = some q
theorem RowOn.later {w6 wr w7 : World} {r0 : Option Nat} {s : Value} (h : RowOn w6 wr r0 s) (hb : Below wr.heap.size wr w7) : RowOn w6 w7 r0 s := ⟨h.g.andThen (grown_none hb) (fun j hj => by cases hj), h.o⟩
theorem RowOn.put {w6 wr w7 : World} {r0 : Option Nat} {s s' : Value} (h : RowOn w6 wr r0 s) (hg : wr.grownBy w7 s.ownBlock) (hv : s'.ownBlock = s.ownBlock ∨ s'.ownBlock = some wr.heap.size) : RowOn w6 w7 r0 s' := by
  refine ⟨h.g.andThen hg h.o, fun q hq => ?_⟩
  rcases hv with hv | hv
  · exact h.o q (by rw [← hv]; exact hq)
  · rw [hv] at hq
    cases hq
    exact .inl h.g.size
set_option maxHeartbeats 32000000 in
theorem callees_any (n : Nat) : ∀ (l : List St) (u : Value) (w : World), StsAt w n u l → nodesS l ≤ 1000000 →
    Calls Try.prog 56 #[u] w fun e' w' => ∃ v, e' = .returned v ∧ Strs w' v (calleesL l) ∧ Below w.heap.size w w' := by
  induction n using Nat.strongRecOn with
  | ind n ih =>
  intro l u w hE hnodes
  obtain ⟨ua, ucap, rfl, hu1, hu2⟩ := hE.len
  have hal : l.length ≤ 1000000 := by have := length_nodesS l; omega
  have HE' := Keep.mk hE
  have IH := Keep.mk ih
  have HND := Keep.mk hnodes
  unfold maxLen at hu2
  clear hE ih hnodes
  obtain ⟨i0, hi, hz0, hz1, hz2⟩ := info_parts Try.infoExpr
  go_enter Try.func56, Try.ntmps56
  go_upto_region 1 with (fail)
  have HR0 : Keep (OwnStrs w.heap.size (w.alloc (.cells #[] 9)) (.slice (some ⟨w.heap.size, 0, none⟩) 0 0) []) := ⟨World.ownsRow_made (base := w.heap.size) (e := 9) (size := 1) w #[] 0 (Nat.le_refl _) (by decide) rfl⟩
  have HB0 : Keep (Below w.heap.size w (w.alloc (.cells #[] 9))) := ⟨(Below.refl _ _).alloc (Nat.le_refl _) _⟩
  go_upto_region 2 with (fail)
  generalize (w.alloc (.cells #[] 9)) = w1 at *
  go_wp2_with fail
  go_loopw [11, 3] (fun i s3 wr => ∃ k : Nat, k ≤ l.length ∧ i = .int .i64 k ∧ Keep (OwnStrs w.heap.size wr s3 (calleesL (l.take k))) ∧ Keep (Below w.heap.size w wr)) (fun i _ _ => l.length - (intOf i).toNat)
  case atStart => exact ⟨0, Nat.zero_le _, rfl, ⟨by rw [List.take_zero, calleesL]; exact HR0.out⟩, HB0⟩
  case round =>
    clear HR0 HB0
    obtain ⟨k, hk, rfl, HR, HB⟩ := hrel
    obtain ⟨ra, rc, rfl⟩ := ownsRow_slice HR.out
    by_cases hlt : k < l.length
    · have k0 : (0 : Int) ≤ k := by omega
      have k1 : (k : Int) < l.length := by omega
      obtain ⟨s, hsk⟩ : ∃ s, l[k]? = some s := ⟨_, List.getElem?_eq_getElem hlt⟩
      obtain ⟨m, b, o, cap, ui, uv, ut, ue, hnm, hua, hb, x0, x1, x2, x3, x4, x5, hI, hV, hT, hEl⟩ := HE'.out.get hsk
      simp only [Value.slice.injEq, true_and] at hua
      obtain ⟨rfl, rfl⟩ := hua
      have hng := nodesS_get hsk
      have hst := calleesL_step hsk
      have hll := calleesL_len (l.take (k + 1))
      have htk := nodesS_take l (k + 1)
      rw [hst, List.length_append] at hll
      obtain ⟨kd, name, index, value, thn, els⟩ := s
      change ∃ m, ExsAt w m ui index at hI
      change ∃ m, ExsAt w m uv value at hV
      change StsAt w m ut thn at hT
      change StsAt w m ue els at hEl
      obtain ⟨mi, hI⟩ := hI
      obtain ⟨mv, hV⟩ := hV
      change w.cell? ⟨b, o + k * 6, none⟩ = some (.int .i64 kd) at x0
      change w.cell? ⟨b, o + k * 6 + 1, none⟩ = some (.string name) at x1
      have z0 := (HB.out.cell (p := ⟨b, o + k * 6, none⟩) hb).trans x0
      have z1 := (HB.out.cell (p := ⟨b, o + k * 6 + 1, none⟩) hb).trans x1
      have z2 := (HB.out.cell (p := ⟨b, o + k * 6 + 2, none⟩) hb).trans x2
      have z3 := (HB.out.cell (p := ⟨b, o + k * 6 + 3, none⟩) hb).trans x3
      have z4 := (HB.out.cell (p := ⟨b, o + k * 6 + 4, none⟩) hb).trans x4
      have z5 := (HB.out.cell (p := ⟨b, o + k * 6 + 5, none⟩) hb).trans x5
      have hbl : b < wr.heap.size := Nat.lt_of_lt_of_le hb HB.out.size
      obtain ⟨ia, ic, rfl, _, _⟩ := hI.len
      obtain ⟨va, vc, rfl, _, _⟩ := hV.len
      obtain ⟨ta, tc, rfl, _, _⟩ := hT.len
      obtain ⟨ea, ec, rfl, _, _⟩ := hEl.len
      obtain ⟨cI, HSI, HRI⟩ := hI.slc
      obtain ⟨cV, HSV, HRV⟩ := hV.slc
      have HII := Keep.mk (And.intro HSI HRI)
      have HVV := Keep.mk (And.intro HSV HRV)
      have HT := Keep.mk hT
      have HEl := Keep.mk hEl
      have HMN : Keep (m < n) := ⟨by omega⟩
      have hsn : (St.mk kd name index value thn els).nodes = 1 + nodesL index + nodesL value + nodesS thn + nodesS els := by rw [St.nodes]
      have HNB : Keep (nodesL (value ++ index) ≤ 1000000 ∧ nodesS thn ≤ 1000000 ∧ nodesS els ≤ 1000000) := ⟨by rw [nodesL_append]; have := HND.out; omega⟩
      have hbl2 : value.length + index.length ≤ 1000000 := by
        have h1 := length_nodesL value
        have h2 := length_nodesL index
        have := HND.out
        omega
      rw [calleesS] at hst hll
      have HSTP := Keep.mk hst
      have HLL : Keep ((calleesL (l.take k)).length + (callsL (value ++ index)).length + (calleesL thn).length + (calleesL els).length ≤ 1000000) := ⟨by
        rw [List.length_append, List.length_append] at hll
        have := HND.out
        omega⟩
      have HLT := Keep.mk (And.intro hlt hk)
      clear x0 x1 x2 x3 x4 x5 hI hV hT hEl hnm HSI HRI HSV HRV hsn hng hst hll htk hsk
      go_upto_region 5 with (fail)
      obtain ⟨Z, hZ'⟩ : ∃ Z, Z = wr.heap.size := ⟨_, rfl⟩
      have hbz : Below wr.heap.size wr (wr.alloc (.cells #[.int .i64 kd, .string name, .slice ia index.length ic, .slice va value.length vc, .slice ta thn.length tc, .slice ea els.length ec] 46)) := (Below.refl _ _).alloc (Nat.le_refl _) _
      have hZ : (wr.alloc (.cells #[.int .i64 kd, .string name, .slice ia index.length ic, .slice va value.length vc, .slice ta thn.length tc, .slice ea els.length ec] 46)).heap[wr.heap.size]? = some (.cells #[.int .i64 kd, .string name, .slice ia index.length ic, .slice va value.length vc, .slice ta thn.length tc, .slice ea els.length ec] 46 (0, 0)) := heap_alloc_new wr _
      have hrl : ∀ j, Value.ownBlock (.slice ra (calleesL (l.take k)).length rc) = some j → w.heap.size ≤ j ∧ j < Z := fun j hj => by
        have := World.ownsRow.lt HR.out j hj
        rw [hZ']; exact this
      replace HR : Keep (OwnStrs w.heap.size (wr.alloc (.cells #[.int .i64 kd, .string name, .slice ia index.length ic, .slice va value.length vc, .slice ta thn.length tc, .slice ea els.length ec] 46)) (.slice ra (calleesL (l.take k)).length rc) (calleesL (l.take k))) := ⟨HR.out.alloc _⟩
      replace HB := Keep.mk (HB.out.trans (hbz.mono HB.out.size))
      rw [← hZ'] at hZ ⊢
      clear hbz z0 z1 z2 z3 z4 z5 hbl hZ' hlt hk k0 k1
      generalize (wr.alloc (.cells #[.int .i64 kd, .string name, .slice ia index.length ic, .slice va value.length vc, .slice ta thn.length tc, .slice ea els.length ec] 46)) = wz at *
      clear wr
      have hZl : Z < wz.heap.size := (Array.getElem?_eq_some_iff.1 hZ).1
      have HZZ := Keep.mk hZ
      have HRL := Keep.mk hrl
      have HSc : Keep (∀ w', Below wz.heap.size wz w' → (w'.cell? ⟨Z, 3, none⟩ = some (.slice va value.length vc) ∧ w'.cell? ⟨Z, 2, none⟩ = some (.slice ia index.length ic)) ∧ Below wz.heap.size wz w') := ⟨fun w' h => by
        have e := (h.block Z hZl).trans HZZ.out
        exact ⟨⟨by simp [World.cell?, e], by simp [World.cell?, e]⟩, h⟩⟩
      have hA0 : (wz.alloc (.cells #[] 42)).drew.ownsRow wz.heap.size 42 4 (.slice (some ⟨wz.heap.size, 0, none⟩) 0 0) 0 [] := World.ownsRow_made (base := wz.heap.size) (e := 42) (size := 4) wz #[] 0 (Nat.le_refl _) (by decide) rfl
      have HA0 := Keep.mk hA0
      have hb0 : Below wz.heap.size wz (wz.alloc (.cells #[] 42)).drew := ((Below.refl _ _).alloc (Nat.le_refl _) _).drew
      have HBA0 := Keep.mk hb0
      clear hA0 hb0 hrl hZ
      go_region_held3 (fun w' => (w'.cell? ⟨Z, 3, none⟩ = some (.slice va value.length vc) ∧ w'.cell? ⟨Z, 2, none⟩ = some (.slice ia index.length ic)) ∧ Below wz.heap.size wz w')
        (first | with_reducible exact HSc.out _ (Below.refl wz.heap.size wz).drew | with_reducible exact HSc.out _ (Below.refl wz.heap.size wz) | with_reducible exact HSc.out _ HBA0.out | with_reducible exact HSc.out _ H5.out.2 | with_reducible exact HSc.out _ H6.out.2 | with_reducible assumption)
        (first
          | (rw [if_pos (by rfl)]; (refine wp_append_slc2 (.tmp 15) (.tmp 17) 40 rfl wz.heap.size 42 i0 (.agg #[.string ⟨#[]⟩, .int .u32 0, .string ⟨#[]⟩, .slice none 0 0]) 4 64 Try.underlying40 hi hz0 hz1 hz2 rfl (by decide) _ 0 [] rfl HA0.out _ value.length cV rfl (HVV.out.1.below (HB.out.trans (HBA0.out.mono HB.out.size)) (Nat.le_refl _)) HVV.out.2.one (by unfold maxLen; omega) (by omega) HBA0.out.size ?_); intro v5 w5 hown5 hg5 hv5; have H5 := Keep.mk (And.intro hown5 (below_append HBA0.out HBA0.out.size HA0.out (Nat.le_refl _) hg5)); clear hown5 hg5 hv5)
          | (rw [if_pos (by rfl)]; (refine wp_append_slc2 (.tmp 18) (.tmp 20) 40 rfl wz.heap.size 42 i0 (.agg #[.string ⟨#[]⟩, .int .u32 0, .string ⟨#[]⟩, .slice none 0 0]) 4 64 Try.underlying40 hi hz0 hz1 hz2 rfl (by decide) _ (0 + value.length) ([] ++ cV) rfl H5.out.1 _ index.length cI rfl (HII.out.1.below (HB.out.trans (H5.out.2.mono HB.out.size)) (Nat.le_refl _)) HII.out.2.one (by unfold maxLen; omega) (by omega) H5.out.2.size ?_); intro v6 w6 hown6 hg6 hv6; obtain ⟨a6, c6, rfl⟩ := ownsRow_slice hown6; have H6 := Keep.mk (And.intro hown6 (below_append H5.out.2 H5.out.2.size H5.out.1 (Nat.le_refl _) hg6)); clear hown6 hg6 hv6))
      rename_i hSS
      clear hSS
      have HB6 := Keep.mk (HB.out.trans (H6.out.2.mono HB.out.size))
      have HR6 : Keep (OwnStrs w.heap.size w6 (.slice ra (calleesL (l.take k)).length rc) (calleesL (l.take k))) := ⟨World.ownsRow.kept HR.out (grown_none H6.out.2) (by cases hq : Value.ownBlock (.slice ra (calleesL (l.take k)).length rc) <;> simp)⟩
      have HZ6 := Keep.mk ((H6.out.2.block Z hZl).trans HZZ.out)
      have HZs := Keep.mk (Nat.lt_of_lt_of_le hZl H6.out.2.size)
      obtain ⟨L, hL⟩ : ∃ L, L = value ++ index := ⟨_, rfl⟩
      rw [← hL] at HNB HSTP HLL
      have e1 : 0 + value.length + index.length = L.length := by rw [hL, List.length_append]; omega
      have e2 : (value.length : Int) + (index.length : Int) = (L.length : Int) := by rw [hL, List.length_append]; omega
      have hLb : L.length ≤ 1000000 := by rw [hL, List.length_append]; omega
      have HJ0 : Keep (w6.ownsRow wz.heap.size 42 4 (.slice a6 (0 + value.length + index.length) c6) (value ++ index).length (cV ++ cI)) := ⟨by
        rw [List.length_append]
        have := H6.out.1
        simpa using this⟩
      rw [e1] at HJ0
      rw [e1, e2]
      rw [← hL] at HJ0
      have HLE := Keep.mk hL
      have hrz : Keep (∀ wr, Below w.heap.size w wr → wr.ownsRow wz.heap.size 42 4 (.slice a6 L.length c6) L.length (cV ++ cI) → ∃ n, ExsAt wr n (.slice a6 L.length c6) L) := ⟨fun wr hb ho => by
        rw [HLE.out] at ho ⊢
        exact exs_joined HVV.out.2 HII.out.2 hb ho⟩
      have HJL : Keep (∀ j, Value.ownBlock (.slice a6 L.length c6) = some j → wz.heap.size ≤ j) := ⟨fun j hj => (World.ownsRow.lt HJ0.out j hj).1⟩
      have HWS := Keep.mk hZl
      clear e1 e2 hL HSc HA0 HBA0 H5 HZZ hZl hbl2 HR HB
      generalize calleesL (l.take k) = R0 at *
      obtain ⟨r0, hr0⟩ : ∃ r0, r0 = Value.ownBlock (.slice ra R0.length rc) := ⟨_, rfl⟩
      rw [← hr0] at HRL
      have HRO : Keep (RowOn w6 w6 r0 (.slice ra R0.length rc)) := ⟨World.grownBy.refl w6 _, fun q hq => .inr (hr0.trans hq)⟩
      have HNEJ : Keep (Value.ownBlock (.slice a6 L.length c6) = none ∨ Value.ownBlock (.slice a6 L.length c6) ≠ r0) := ⟨by
        cases hq : Value.ownBlock (.slice a6 L.length c6) with
        | none => exact .inl rfl
        | some q => exact .inr (fun e => by have := HJL.out q hq; have := HRL.out q e.symm; have := HWS.out; omega)⟩
      have HNEZ : Keep (some Z ≠ r0) := ⟨fun e => by have := HRL.out Z e.symm; omega⟩
      clear hr0 HWS HJL
      go_wp2_with fail
      go_loopw [23, 3] (fun i s3 wr => ∃ j : Nat, j ≤ L.length ∧ i = .int .i64 j ∧ Keep (OwnStrs w.heap.size wr s3 (R0 ++ callsL (L.take j))) ∧ Keep (RowOn w6 wr r0 s3)) (fun i _ _ => L.length - (intOf i).toNat)
      case atStart => exact ⟨0, Nat.zero_le _, rfl, ⟨by rw [List.take_zero, callsL, List.append_nil]; exact HR6.out⟩, HRO⟩
      case round =>
        clear HR6 HRO
        obtain ⟨j, hj, rfl, HR, HRO⟩ := hrel
        obtain ⟨ra', rc', rfl⟩ := ownsRow_slice HR.out
        have HB := Keep.mk (HB6.out.grown HRO.out.g HB6.out.size (fun q hq => (HRL.out q hq).1))
        by_cases hlj : j < L.length
        · have j0 : (0 : Int) ≤ j := by omega
          have j1 : (j : Int) < L.length := by omega
          obtain ⟨e, hej⟩ : ∃ e, L[j]? = some e := ⟨_, List.getElem?_eq_getElem hlj⟩
          obtain ⟨nj, hJr⟩ := hrz.out wr HB.out (World.ownsRow.kept HJ0.out HRO.out.g HNEJ.out)
          obtain ⟨me, b', o', cap', u', hme, hua, hb', z0, z1, z2, z3, hu⟩ := hJr.get hej
          simp only [Value.slice.injEq, true_and] at hua
          obtain ⟨rfl, rfl⟩ := hua
          obtain ⟨uu, ucap', rfl, _, _⟩ := hu.len
          have HI : Keep (∀ wx, Below wr.heap.size wr wx → Calls Try.prog 69 #[.agg #[.string e.op, .int .u32 e.num, .string e.name, .slice uu e.args.length ucap']] wx fun e' w' => ∃ v, e' = .returned v ∧ Strs w' v (callsE e) ∧ Below wx.heap.size wx w') := ⟨fun wx hx => calls_any me e _ wx (hu.below hx (Nat.le_refl _)) (by have := nodesL_get hej; have := HNB.out.1; omega)⟩
          have HNX : Keep (R0 ++ callsL (L.take (j + 1)) = (R0 ++ callsL (L.take j)) ++ callsE e) := ⟨by rw [callsL_step hej, List.append_assoc]⟩
          have HLN : Keep ((R0 ++ callsL (L.take j)).length + (callsE e).length ≤ 1000000) := ⟨by
            have h2 := callsL_append (L.take (j + 1)) (L.drop (j + 1))
            rw [List.take_append_drop, callsL_step hej] at h2
            have h3 := congrArg List.length h2
            simp only [List.length_append] at h3
            have h4 := HLL.out
            rw [List.length_append]
            omega⟩
          have hbs : Below wr.heap.size wr (wr.alloc (.cells #[.string e.op, .int .u32 e.num, .string e.name, .slice uu e.args.length ucap'] 42)) := (Below.refl _ _).alloc (Nat.le_refl _) _
          have HBs := Keep.mk hbs
          clear hej hu hJr hme hbs
          generalize R0 ++ callsL (L.take j) = LL at *
          generalize callsE e = Ce at *
          go_wp2_with fail
          refine (HI.out _ HBs.out).mono ?_
          rintro _ w7 ⟨v7, rfl, hS7, hb7⟩
          have HB7 := Keep.mk (HBs.out.trans (hb7.mono HBs.out.size))
          have HR7 : Keep (OwnStrs w.heap.size w7 (.slice ra' LL.length rc') LL) := ⟨World.ownsRow.kept HR.out (grown_none HB7.out) (by cases hq : Value.ownBlock (.slice ra' LL.length rc') <;> simp)⟩
          have HS7 := Keep.mk hS7
          have hw7 : w.heap.size ≤ w7.heap.size := Nat.le_trans HB.out.size HB7.out.size
          clear z0 z1 z2 z3 hb' hb7 HI hS7
          obtain ⟨va7, vc7, rfl, _, _⟩ := HS7.out.len
          go_wp2_with (at_builtin; go_must (refine wpList_append_gstrs rfl _ _ rfl rfl HR7.out rfl HS7.out HLN.out hw7 ?_); intro v8 w8 hO8 hB8 hv8; have H8 := Keep.mk (And.intro hO8 (RowOn.put (HRO.out.later HB7.out) hB8 hv8)); clear hO8 hB8 hv8)
          go_roundw
          case rel => exact ⟨j + 1, by omega, by go_num, ⟨by rw [HNX.out]; exact H8.out.1⟩, ⟨H8.out.2⟩⟩
          case measure => simp [intOf]; omega
        · obtain rfl : j = L.length := by omega
          rw [List.take_length] at HR HRO ⊢
          have HL2 : Keep ((R0 ++ callsL L).length + (calleesL thn).length + (calleesL els).length ≤ 1000000) := ⟨by rw [List.length_append]; exact HLL.out⟩
          have HST2 : Keep (calleesL (l.take (k + 1)) = ((R0 ++ callsL L) ++ calleesL thn) ++ calleesL els) := ⟨by rw [HSTP.out]; simp [List.append_assoc]⟩
          generalize R0 ++ callsL L = LL at *
          clear hlj hj
          clear HSTP HLL HJ0 HNEJ HLE hrz
          have HCT : Keep (∀ wx, Below w.heap.size w wx → Calls Try.prog 56 #[.slice ta thn.length tc] wx fun e' w' => ∃ v, e' = .returned v ∧ Strs w' v (calleesL thn) ∧ Below wx.heap.size wx w') := ⟨fun wx hx => IH.out m HMN.out thn _ wx (HT.out.below hx (Nat.le_refl _)) HNB.out.2.1⟩
          have HCE : Keep (∀ wx, Below w.heap.size w wx → Calls Try.prog 56 #[.slice ea els.length ec] wx fun e' w' => ∃ v, e' = .returned v ∧ Strs w' v (calleesL els) ∧ Below wx.heap.size wx w') := ⟨fun wx hx => IH.out m HMN.out els _ wx (HEl.out.below hx (Nat.le_refl _)) HNB.out.2.2⟩
          have HZc : Keep (∀ wx, w6.grownBy wx r0 → (wx.cell? ⟨Z, 4, none⟩ = some (.slice ta thn.length tc) ∧ wx.cell? ⟨Z, 5, none⟩ = some (.slice ea els.length ec)) ∧ Z < wx.heap.size) := ⟨fun wx hx => by
            have e := (hx.block Z HZs.out HNEZ.out).trans HZ6.out
            exact ⟨⟨by simp [World.cell?, e], by simp [World.cell?, e]⟩, (Array.getElem?_eq_some_iff.1 e).1⟩⟩
          obtain ⟨⟨t4, t5⟩, tl⟩ := HZc.out wr HRO.out.g
          generalize calleesL thn = CT at *
          generalize calleesL els = CE at *
          go_wp2_with fail
          refine (HCT.out _ HB.out).mono ?_
          rintro _ w7 ⟨v7, rfl, hS7, hb7⟩
          have HB7 := Keep.mk (HB.out.trans (hb7.mono HB.out.size))
          have HR7 : Keep (OwnStrs w.heap.size w7 (.slice ra' LL.length rc') LL) := ⟨World.ownsRow.kept HR.out (grown_none hb7) (by cases hq : Value.ownBlock (.slice ra' LL.length rc') <;> simp)⟩
          have HS7 := Keep.mk hS7
          have HRO7 := Keep.mk (HRO.out.later hb7)
          have HN7 : Keep (LL.length + CT.length ≤ 1000000) := ⟨by have := HL2.out; omega⟩
          have HN9 : Keep ((LL ++ CT).length + CE.length ≤ 1000000) := ⟨by rw [List.length_append]; exact HL2.out⟩
          clear t4 t5 tl hb7 hS7 HCT HRO HB HR
          obtain ⟨va7, vc7, rfl, _, _⟩ := HS7.out.len
          go_wp2_with (at_builtin; go_must (refine wpList_append_gstrs rfl _ _ rfl rfl HR7.out rfl HS7.out HN7.out HB7.out.size ?_); intro v8 w8 hO8 hB8 hv8; have H8 := Keep.mk (And.intro hO8 (RowOn.put HRO7.out hB8 hv8)); clear hO8 hB8 hv8; generalize LL ++ CT = LT at *; obtain ⟨a8, c8, rfl⟩ := ownsRow_slice H8.out.1; obtain ⟨⟨t4, t5⟩, tl⟩ := HZc.out w8 H8.out.2.g)
          have HB8 := Keep.mk (HB6.out.grown H8.out.2.g HB6.out.size (fun q hq => (HRL.out q hq).1))
          clear HB7 HR7 HRO7 HN7 HS7
          go_wp2_with fail
          refine (HCE.out _ HB8.out).mono ?_
          rintro _ w9 ⟨v9, rfl, hS9, hb9⟩
          have HB9 := Keep.mk (HB8.out.trans (hb9.mono HB8.out.size))
          have HR9 : Keep (OwnStrs w.heap.size w9 (.slice a8 LT.length c8) LT) := ⟨World.ownsRow.kept H8.out.1 (grown_none hb9) (by cases hq : Value.ownBlock (.slice a8 LT.length c8) <;> simp)⟩
          have HS9 := Keep.mk hS9
          have HRO9 := Keep.mk (H8.out.2.later hb9)
          clear t4 t5 tl hb9 hS9 HCE H8 HB8
          obtain ⟨va9, vc9, rfl, _, _⟩ := HS9.out.len
          have hlk := HLT.out.1
          have k0 : (0 : Int) ≤ k := by omega
          have k1 : (k : Int) < l.length := by omega
          go_wp2_with (at_builtin; go_must (refine wpList_append_gstrs rfl _ _ rfl rfl HR9.out rfl HS9.out HN9.out HB9.out.size ?_); intro v8 w8 hO8 hB8 hv8; have H8 := Keep.mk (And.intro hO8 (RowOn.put HRO9.out hB8 hv8)); clear hO8 hB8 hv8)
          have HBf := Keep.mk (HB6.out.grown H8.out.2.g HB6.out.size (fun q hq => (HRL.out q hq).1))
          go_roundw
          case rel => exact ⟨k + 1, by omega, by go_num, ⟨by rw [HST2.out]; exact H8.out.1⟩, HBf⟩
          case measure => simp [intOf]; omega
    · obtain rfl : k = l.length := by omega
      rw [List.take_length] at HR ⊢
      have HSR := Keep.mk HR.out.strs
      generalize (calleesL l).length = ln at *
      go_wp2_with fail
      go_ret
      exact ⟨_, rfl, HSR.out, HB.out⟩
end Go.Proofs.Ytgimdbflpdmlmaa
