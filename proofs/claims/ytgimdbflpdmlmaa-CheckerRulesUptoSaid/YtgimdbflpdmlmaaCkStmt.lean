/- The checker's stmt and stmts. Condition: bounds. -/
import Derived.Test.YtgimdbflpdmlmaaCkFormed
import Derived.Test.YtgimdbflpdmlmaaCkStMath
import Derived.Deep.RegionHeld3
namespace Go.Proofs.Ytgimdbflpdmlmaa
set_option maxRecDepth 100000
open Go.RowKit Go.Shelf Go.Proofs.Ytgimdbflpdmlmaa.Ck

theorem low_on {w W W' : World} (hb : Below W.heap.size W W') (h : Below w.heap.size w W) : Below w.heap.size w W' := h.trans (hb.mono h.size)
theorem StsAt.get {w : World} {n : Nat} {v : Value} {l : List St} (h : StsAt w n v l) {i : Nat} {s : St} (hi : l[i]? = some s) : ∃ m b o cap ui uv ut ue, n = m + 1 ∧ v = .slice (some ⟨b, o, none⟩) l.length cap ∧ b < w.heap.size ∧
    w.cell? ⟨b, o + i * 6, none⟩ = some (.int .i64 s.kind) ∧ w.cell? ⟨b, o + i * 6 + 1, none⟩ = some (.string s.name) ∧ w.cell? ⟨b, o + i * 6 + 2, none⟩ = some ui ∧ w.cell? ⟨b, o + i * 6 + 3, none⟩ = some uv ∧ w.cell? ⟨b, o + i * 6 + 4, none⟩ = some ut ∧ w.cell? ⟨b, o + i * 6 + 5, none⟩ = some ue ∧
    (∃ m, ExsAt w m ui s.index) ∧ (∃ m, ExsAt w m uv s.value) ∧ StsAt w m ut s.thn ∧ StsAt w m ue s.els := by
  have hlt := (List.getElem?_eq_some_iff.1 hi).1
  cases n with
  | zero => obtain ⟨rfl, _⟩ := h; simp at hlt
  | succ n =>
    obtain ⟨a, cap, rfl, h1, h2, h3⟩ := h
    rcases h3 with rfl | ⟨b, o, rfl, hb, hc⟩
    · simp at hlt
    · obtain ⟨c0, c1, ui, uv, ut, ue, c2, c3, c4, c5, x1, x2, x3, x4⟩ := hc i s hi
      exact ⟨n, b, o, cap, ui, uv, ut, ue, rfl, rfl, hb, c0, c1, c2, c3, c4, c5, x1, x2, x3, x4⟩
/-- What a formed statement is made of. -/
theorem formed_parts {k : Int} {name : BA} {index value : List Ex} {thn els : List St} (h : formed (.mk k name index value thn els) = true) :
    (k = 7 ∧ value = []) ∨ (∃ x, value = [x] ∧ (k = 1 ∨ (k = 2 ∧ ∃ y, index = [y]) ∨ k = 3 ∨ k = 4 ∨ k = 5 ∨ k = 6)) := by
  have one : ∀ {α : Type} {l : List α}, l.length = 1 → ∃ x, l = [x] := fun h => List.length_eq_one_iff.1 h
  have nil : ∀ {α : Type} {l : List α}, l.length = 0 → l = [] := fun h => List.eq_nil_of_length_eq_zero h
  rw [formed] at h
  split at h
  · simp only [Bool.and_eq_true, decide_eq_true_iff] at h
    obtain ⟨x, hx⟩ := one h.1.1.2
    exact .inr ⟨x, hx, .inl ‹_›⟩
  split at h
  · simp only [Bool.and_eq_true, decide_eq_true_iff] at h
    obtain ⟨x, hx⟩ := one h.1.1.2
    exact .inr ⟨x, hx, .inr (.inl ⟨‹_›, one h.1.1.1.2⟩)⟩
  split at h
  · simp only [Bool.and_eq_true, decide_eq_true_iff] at h
    obtain ⟨x, hx⟩ := one h.2
    exact .inr ⟨x, hx, .inr (.inr (.inl ‹_›))⟩
  split at h
  · simp only [Bool.and_eq_true, decide_eq_true_iff] at h
    obtain ⟨x, hx⟩ := one h.1.2
    exact .inr ⟨x, hx, .inr (.inr (.inr (.inl ‹_›)))⟩
  split at h
  · simp only [Bool.and_eq_true, decide_eq_true_iff] at h
    obtain ⟨x, hx⟩ := one h.1.1.2
    exact .inr ⟨x, hx, .inr (.inr (.inr (.inr (.inl ‹_›))))⟩
  split at h
  · simp only [Bool.and_eq_true, decide_eq_true_iff] at h
    obtain ⟨x, hx⟩ := one h.1.1.1.2
    exact .inr ⟨x, hx, .inr (.inr (.inr (.inr (.inr ‹_›))))⟩
  split at h
  · simp only [Bool.and_eq_true, decide_eq_true_iff] at h
    exact .inl ⟨‹_›, nil h.1.1.2⟩
  · cases h

theorem require_never (h : False) (b : Bool) (name : ByteArray) (e0 : Int) (w : World) : Calls Try.prog 46 #[.bool b, .string name, .int .i64 e0] w fun e w' => (∃ v, e = .returned v) ∧ w = w' := h.elim
theorem stmts_never (h : False) (args : Array Value) (w : World) : Calls Try.prog 65 args w fun e w' => e = .returned (.int .i64 0) ∧ w = w' := h.elim
/-- Statements, at most n deep. -/
def StsP (w0 : World) (B G V A F O : Nat) (c : Cx) (K0 n : Nat) : Prop := ∀ (l : List St) (v : Value) (w : World) (d : Nat), StsAt w0 n v l → Held w0 w B → CkIn w B G V A F O c d → d ≤ K0 → K0 + 5 * nodesS l ≤ 1000000000 →
    Calls Try.prog 65 #[.pointer (some ⟨B, 0, none⟩), v] w fun e' w' => After w B G V A F O c (stsC c l d) e' w'

set_option maxHeartbeats 8000000 in
theorem stmt_any {w0 : World} {B G V A F O : Nat} {c : Cx} {K0 n : Nat} (hs : Small c K0) (hP : StsP w0 B G V A F O c K0 n) {k : Int} {name : ByteArray} {index value : List Ex} {thn els : List St} {ui uv ut ue : Value} {w : World} {d : Nat}
    (hI : ∃ m, ExsAt w0 m ui index) (hV : ∃ m, ExsAt w0 m uv value) (hT : StsAt w0 n ut thn) (hE : StsAt w0 n ue els) (hH : Held w0 w B) (hC : CkIn w B G V A F O c d) (hd : d ≤ K0) (hK : K0 + 5 * (St.mk k name index value thn els).nodes ≤ 1000000000) :
    Calls Try.prog 78 #[.pointer (some ⟨B, 0, none⟩), .agg #[.int .i64 k, .string name, ui, uv, ut, ue]] w fun e' w' => After w B G V A F O c (stC c (.mk k name index value thn els) d) e' w' := by
  obtain ⟨mi, hI⟩ := hI
  obtain ⟨mv, hV⟩ := hV
  obtain ⟨ia, ic, rfl, hi1, hi2⟩ := hI.len
  obtain ⟨va, vc, rfl, hv1, hv2⟩ := hV.len
  obtain ⟨ta, tc, rfl, ht1, ht2⟩ := hT.len
  obtain ⟨ea, ec, rfl, he1, he2⟩ := hE.len
  rw [St.nodes] at hK
  have HI := Keep.mk hI
  have HV := Keep.mk hV
  have HT := Keep.mk hT
  have HE := Keep.mk hE
  have HH := Keep.mk hH
  have HC := Keep.mk hC
  have HP := Keep.mk hP
  have HQ : Keep (stC c (.mk k name index value thn els) d = (req (formed (.mk k name index value thn els)) c.name 3).bind fun _ =>
      if k = 7 then .ok (0, d) else (first c value d).bind fun r =>
        if k = 1 then (scalarC c name).bind fun _ => .ok (max 2 r.1, r.2)
        else if k = 2 then (first c index r.2).bind fun q => (arrayC c name).bind fun _ => .ok (max r.1 (2 + q.1), q.2)
        else if k = 5 then .ok r
        else if k = 3 ∨ k = 4 then (stsC c thn r.2).bind fun t => (stsC c els t.2).bind fun u => .ok (max 2 (max r.1 (max t.1 u.1)), u.2)
        else .ok (max 2 r.1, r.2)) := ⟨by rw [stC]⟩
  unfold maxLen at hi2 hv2 ht2 he2
  have HLEN := Keep.mk (And.intro hi1 (And.intro hv1 (And.intro ht1 he1)))
  clear hI hV hT hE hH hC hP
  go_enter Try.func78, Try.ntmps78
  go_upto_region 1 with (fail)
  have hY : (w.alloc (.cells #[.int .i64 k, .string name, .slice ia index.length ic, .slice va value.length vc, .slice ta thn.length tc, .slice ea els.length ec] 46)).heap[w.heap.size]? = some (.cells #[.int .i64 k, .string name, .slice ia index.length ic, .slice va value.length vc, .slice ta thn.length tc, .slice ea els.length ec] 46 (0, 0)) := heap_alloc_new w _
  have HB1 := Keep.mk ((Below.refl w.heap.size w).alloc (Nat.le_refl _) (.cells #[.int .i64 k, .string name, .slice ia index.length ic, .slice va value.length vc, .slice ta thn.length tc, .slice ea els.length ec] 46))
  have HY1 := Keep.mk hY
  clear hY
  generalize (w.alloc (.cells #[.int .i64 k, .string name, .slice ia index.length ic, .slice va value.length vc, .slice ta thn.length tc, .slice ea els.length ec] 46)) = w1 at *
  have HC1 := Keep.mk (HC.out.below HB1.out)
  have HH1 := Keep.mk (HH.out.grown (grown_low HB1.out))
  have HS1 : Keep (∀ w', Below w1.heap.size w1 w' → (((w'.cell? ⟨w.heap.size, 0, none⟩ = some (.int .i64 k) ∧ w'.cell? ⟨w.heap.size, 1, none⟩ = some (.string name) ∧ w'.cell? ⟨w.heap.size, 2, none⟩ = some (.slice ia index.length ic)) ∧
      (w'.cell? ⟨w.heap.size, 3, none⟩ = some (.slice va value.length vc) ∧ w'.cell? ⟨w.heap.size, 4, none⟩ = some (.slice ta thn.length tc) ∧ w'.cell? ⟨w.heap.size, 5, none⟩ = some (.slice ea els.length ec))) ∧ w'.cell? ⟨B, 4, none⟩ = some (.string c.name)) ∧ Below w1.heap.size w1 w') := ⟨fun w' hb => by
    have hx := (hb.block w.heap.size (Array.getElem?_eq_some_iff.1 HY1.out).1).trans HY1.out
    have c4 := (HC1.out.below hb).cell 4
    simp only [List.getElem?_cons_zero, List.getElem?_cons_succ] at c4
    refine ⟨⟨⟨⟨?_, ?_, ?_⟩, ?_, ?_, ?_⟩, c4⟩, hb⟩ <;> simp [World.cell?, hx]⟩
  have HF : Keep (∀ w', Below w1.heap.size w1 w' → Calls Try.prog 84 #[.agg #[.int .i64 k, .string name, .slice ia index.length ic, .slice va value.length vc, .slice ta thn.length tc, .slice ea els.length ec]] w' fun e w'' => e = .returned (.bool (formed (.mk k name index value thn els))) ∧ Below w'.heap.size w' w'') :=
    ⟨fun w' hb => formed_any (HV.out.below (HH1.out.low.trans (hb.mono HH1.out.low.size)) (Nat.le_refl _))⟩
  have hBl : B < w1.heap.size := HC1.out.lt
  have hYl : w.heap.size < w1.heap.size := (Array.getElem?_eq_some_iff.1 HY1.out).1
  cases hfm : formed (.mk k name index value thn els) with
  | false =>
    rw [hfm] at HQ HF
    have HBAD : Keep (∀ w', Below w1.heap.size w1 w' → w.grownBy w' (some B)) := ⟨fun w' hb => grown_low (HB1.out.trans (hb.mono HB1.out.size))⟩
    obtain ⟨⟨⟨⟨a0, a1, a2⟩, a3, a4, a5⟩, a6⟩, _⟩ := HS1.out _ (Below.refl w1.heap.size w1)
    clear hfm HI HV HT HE HP HC1 HH1 HY1
    go_region_with (first
      | (go_at_call 84; (refine (HF.out _ (Below.refl w1.heap.size w1).drew).mono ?_); rintro e w4 ⟨rfl, hb4⟩; obtain ⟨⟨⟨⟨b0, b1, b2⟩, b3, b4, b5⟩, b6⟩, hb6⟩ := HS1.out _ (Below.trans (Below.refl w1.heap.size w1).drew hb4); have hBl4 : B < w4.heap.size := Nat.lt_of_lt_of_le hBl hb4.size)
      | (go_at_call 46; by_cases hF0 : False; (case neg => (refine (require_bad _ _ _).mono ?_); rintro _ w5 ⟨rfl, rfl⟩; exact ⟨rfl, After.bad (HBAD.out _ hb6) HQ.out⟩); have hF := Keep.mk hF0; clear hF0; (refine (require_never hF.out _ _ _ _).mono ?_); rintro _ w5 ⟨⟨v5, rfl⟩, rfl⟩))
    all_goals (exact hF.out.elim)
  | true =>
    have HFP := Keep.mk (formed_parts hfm)
    rw [hfm] at HQ HF
    clear hfm
    go_cut [13] from 7 to 14 (fun v13 wx => Below w1.heap.size w1 wx)
    case first =>
      clear HI HV HT HE HP HC1 HH1 HY1
      go_region_held3 (fun w' => (((w'.cell? ⟨w.heap.size, 0, none⟩ = some (.int .i64 k) ∧ w'.cell? ⟨w.heap.size, 1, none⟩ = some (.string name) ∧ w'.cell? ⟨w.heap.size, 2, none⟩ = some (.slice ia index.length ic)) ∧
        (w'.cell? ⟨w.heap.size, 3, none⟩ = some (.slice va value.length vc) ∧ w'.cell? ⟨w.heap.size, 4, none⟩ = some (.slice ta thn.length tc) ∧ w'.cell? ⟨w.heap.size, 5, none⟩ = some (.slice ea els.length ec))) ∧ w'.cell? ⟨B, 4, none⟩ = some (.string c.name)) ∧ Below w1.heap.size w1 w')
        (first | with_reducible exact HS1.out _ (Below.refl w1.heap.size w1).drew | with_reducible exact HS1.out _ (Below.refl w1.heap.size w1) | with_reducible exact HS1.out _ (low_on hb4 (And.right (by assumption))) | with_reducible assumption)
        (first
          | (go_at_call 84; (with_reducible refine (HF.out _ ?_).mono ?_); (exact And.right (by assumption)); rintro e w4 ⟨rfl, hb4⟩)
          | (go_at_call 46; (with_reducible refine (require_ok _ _ _).mono ?_); rintro _ w5 ⟨⟨v5, rfl⟩, rfl⟩))
      all_goals (go_wp2; go_meet; exact And.right (by assumption))
    case rest =>
    have HB2 := Keep.mk (HB1.out.trans (hcut.mono HB1.out.size))
    have HC2 := Keep.mk (HC.out.below HB2.out)
    have HH2 := Keep.mk (HH.out.grown (grown_low HB2.out))
    have HY2 := Keep.mk ((hcut.block w.heap.size hYl).trans HY1.out)
    have HQ2 : Keep (stC c (.mk k name index value thn els) d = if k = 7 then .ok (0, d) else (first c value d).bind fun r =>
        if k = 1 then (scalarC c name).bind fun _ => .ok (max 2 r.1, r.2)
        else if k = 2 then (first c index r.2).bind fun q => (arrayC c name).bind fun _ => .ok (max r.1 (2 + q.1), q.2)
        else if k = 5 then .ok r
        else if k = 3 ∨ k = 4 then (stsC c thn r.2).bind fun t => (stsC c els t.2).bind fun u => .ok (max 2 (max r.1 (max t.1 u.1)), u.2)
        else .ok (max 2 r.1, r.2)) := ⟨HQ.out⟩
    clear hcut HB1 HC1 HH1 HY1 HS1 HF HQ hBl hYl
    generalize hw2 : wc = w2 at *
    clear hw2
    have hYl : w.heap.size < w2.heap.size := (Array.getElem?_eq_some_iff.1 HY2.out).1
    have y0 : w2.cell? ⟨w.heap.size, 0, none⟩ = some (.int .i64 k) := by simp [World.cell?, HY2.out]
    rcases HFP.out with ⟨rfl, hv0⟩ | ⟨x, rfl, hkk⟩
    · have HR : Keep (stC c (.mk 7 name index value thn els) d = .ok (0, d)) := ⟨by rw [HQ2.out, if_pos rfl]⟩
      have HV0 := Keep.mk hv0
      clear hv0 HFP
      go_wp2_with fail
      go_ret
      exact After.ok (grown_low HB2.out) HR.out HC2.out
    · clear HFP
      have hk7 : (k == 7) = false := by rcases hkk with rfl | ⟨rfl, _⟩ | rfl | rfl | rfl | rfl <;> rfl
      have HKK := Keep.mk hkk
      obtain ⟨mx, b, o, cap, u, hmx, hva, hb, x0, x1, x2, x3, hu⟩ := HV.out.get (i := 0) (e := x) rfl
      simp only [Value.slice.injEq] at hva
      obtain ⟨rfl, _, rfl⟩ := hva
      rw [Nat.zero_mul, Nat.add_zero] at x0 x1 x2 x3
      have y3 : w2.cell? ⟨w.heap.size, 3, none⟩ = some (.slice (some ⟨b, o, none⟩) 1 vc) := by simp [World.cell?, HY2.out]
      have z0 := (HH2.out.low.cell (p := ⟨b, o, none⟩) hb).trans x0
      have z1 := (HH2.out.low.cell (p := ⟨b, o + 1, none⟩) hb).trans x1
      have z2 := (HH2.out.low.cell (p := ⟨b, o + 2, none⟩) hb).trans x2
      have z3 := (HH2.out.low.cell (p := ⟨b, o + 3, none⟩) hb).trans x3
      have hbl : b < w2.heap.size := Nat.lt_of_lt_of_le hb HH2.out.low.size
      obtain ⟨uu, ucap', rfl, _, _⟩ := hu.len
      have hnx : nodesL [x] = x.nodes := by rw [nodesL, nodesL]; omega
      have HX := Keep.mk (expr_any hs mx x _ w2 d hu HH2.out HC2.out hd (by rw [hnx] at hK; omega))
      clear hkk hmx x0 x1 x2 x3 hu
      go_wp2_with fail
      refine HX.out.mono ?_
      rintro e' w3 hAf
      have HF1 : Keep (first c [x] d = exprC c x d) := ⟨rfl⟩
      clear y0 y3 z0 z1 z2 z3 hbl hYl HX
      have hk7' : ¬ k = 7 := by intro h; subst h; cases hk7
      rw [if_neg hk7', HF1.out] at HQ2
      clear hk7' HF1
      cases hx : exprC c x d with
      | bad v =>
        rw [hx] at hAf HQ2
        obtain ⟨hg3, rfl⟩ := hAf
        exact ⟨rfl, After.bad (grown_trans (grown_low HB2.out) hg3) HQ2.out⟩
      | ok r =>
        obtain ⟨n1, d1⟩ := r
        rw [hx] at hAf HQ2
        obtain ⟨hg3, rfl, hc3⟩ := hAf
        have hle := exprC_le hs x d n1 d1 hx
        have HG3 := Keep.mk (grown_trans (grown_low HB2.out) hg3)
        have HC3 := Keep.mk hc3
        have HBne : w.heap.size ≠ B := fun e => by have := HC.out.lt; omega
        have HY3 := Keep.mk ((hg3.block w.heap.size (Array.getElem?_eq_some_iff.1 HY2.out).1 (fun e => HBne (by cases e; rfl))).trans HY2.out)
        have HH3 := Keep.mk (HH.out.grown HG3.out)
        have HQ3 : Keep (stC c (.mk k name index [x] thn els) d = if k = 1 then (scalarC c name).bind fun _ => .ok (max 2 n1, d1)
          else if k = 2 then (first c index d1).bind fun q => (arrayC c name).bind fun _ => .ok (max n1 (2 + q.1), q.2)
          else if k = 5 then .ok (n1, d1)
          else if k = 3 ∨ k = 4 then (stsC c thn d1).bind fun t => (stsC c els t.2).bind fun u => .ok (max 2 (max n1 (max t.1 u.1)), u.2)
          else .ok (max 2 n1, d1)) := ⟨HQ2.out⟩
        have hd1 : d1 ≤ K0 := by omega
        have hn1 : n1 ≤ 1000000000 := by rw [hnx] at hK; omega
        have HBN := Keep.mk HBne
        clear hg3 hc3 hx hle HQ2 HB2 HC2 HH2 HY2 hk7 HBne
        have y0 : w3.cell? ⟨w.heap.size, 0, none⟩ = some (.int .i64 k) := by simp [World.cell?, HY3.out]
        have y1 : w3.cell? ⟨w.heap.size, 1, none⟩ = some (.string name) := by simp [World.cell?, HY3.out]
        have yl : w.heap.size < w3.heap.size := (Array.getElem?_eq_some_iff.1 HY3.out).1
        rcases HKK.out with rfl | ⟨rfl, y, rfl⟩ | hk | hk | rfl | rfl
        · have HR : Keep (stC c (.mk 1 name index [x] thn els) d = (scalarC c name).bind fun _ => .ok (max 2 n1, d1)) := ⟨by rw [HQ3.out, if_pos rfl]⟩
          go_wp2_with fail
          refine (scalar_any HC3.out name).mono ?_
          rintro e' w4 ⟨hen, rfl⟩
          cases hsc : scalarC c name with
          | bad v =>
            rw [hsc] at hen HR
            obtain rfl : e' = _ := hen
            exact ⟨rfl, After.bad HG3.out HR.out⟩
          | ok _ =>
            rw [hsc] at hen HR
            obtain ⟨v4, rfl⟩ := hen
            clear hsc
            go_wp2_with fail
            all_goals (go_ret; exact After.okE HG3.out HR.out HC3.out (by omega))
        · have HR : Keep (stC c (.mk 2 name [y] [x] thn els) d = (first c [y] d1).bind fun q => (arrayC c name).bind fun _ => .ok (max n1 (2 + q.1), q.2)) := ⟨by rw [HQ3.out, if_neg (by decide), if_pos rfl]⟩
          obtain ⟨mx2, b2, o2, cap2, u2, _, hia, hb2, x0, x1, x2, x3, hu⟩ := HI.out.get (i := 0) (e := y) rfl
          simp only [Value.slice.injEq] at hia
          obtain ⟨rfl, _, rfl⟩ := hia
          rw [Nat.zero_mul, Nat.add_zero] at x0 x1 x2 x3
          have y2 : w3.cell? ⟨w.heap.size, 2, none⟩ = some (.slice (some ⟨b2, o2, none⟩) 1 ic) := by simp [World.cell?, HY3.out]
          have z0 := (HH3.out.low.cell (p := ⟨b2, o2, none⟩) hb2).trans x0
          have z1 := (HH3.out.low.cell (p := ⟨b2, o2 + 1, none⟩) hb2).trans x1
          have z2 := (HH3.out.low.cell (p := ⟨b2, o2 + 2, none⟩) hb2).trans x2
          have z3 := (HH3.out.low.cell (p := ⟨b2, o2 + 3, none⟩) hb2).trans x3
          have hbl : b2 < w3.heap.size := Nat.lt_of_lt_of_le hb2 HH3.out.low.size
          obtain ⟨uu2, ucap2, rfl, _, _⟩ := hu.len
          have hny : nodesL [y] = y.nodes := by rw [nodesL, nodesL]; omega
          have HX := Keep.mk (expr_any hs mx2 y _ w3 d1 hu HH3.out HC3.out hd1 (by rw [hny] at hK; omega))
          have HF1 : Keep (first c [y] d1 = exprC c y d1) := ⟨rfl⟩
          rw [HF1.out] at HR
          clear x0 x1 x2 x3 hu HF1
          go_wp2_with fail
          refine HX.out.mono ?_
          rintro e' w4 hAf
          clear y0 y1 y2 z0 z1 z2 z3 hbl yl HX
          cases hy : exprC c y d1 with
          | bad v =>
            rw [hy] at hAf HR
            obtain ⟨hg4, rfl⟩ := hAf
            exact ⟨rfl, After.bad (grown_trans HG3.out hg4) HR.out⟩
          | ok r =>
            obtain ⟨n2, d2⟩ := r
            rw [hy] at hAf HR
            obtain ⟨hg4, rfl, hc4⟩ := hAf
            have hle := exprC_le hs y d1 n2 d2 hy
            have HG4 := Keep.mk (grown_trans HG3.out hg4)
            have HC4 := Keep.mk hc4
            have hx4 := (hg4.block w.heap.size (Array.getElem?_eq_some_iff.1 HY3.out).1 (fun e => HBN.out (by cases e; rfl))).trans HY3.out
            have y1 : w4.cell? ⟨w.heap.size, 1, none⟩ = some (.string name) := by simp [World.cell?, hx4]
            have yl : w.heap.size < w4.heap.size := (Array.getElem?_eq_some_iff.1 hx4).1
            have HR2 : Keep (stC c (.mk 2 name [y] [x] thn els) d = (arrayC c name).bind fun _ => .ok (max n1 (2 + n2), d2)) := ⟨HR.out⟩
            have hn2 : n2 ≤ 1000000000 := by rw [hny] at hK; omega
            clear hg4 hc4 hy hle hx4 HR
            go_wp2_with fail
            refine (array_any HC4.out name).mono ?_
            rintro e' w5 ⟨hen, rfl⟩
            cases hsc : arrayC c name with
            | bad v =>
              rw [hsc] at hen HR2
              obtain rfl : e' = _ := hen
              exact ⟨rfl, After.bad HG4.out HR2.out⟩
            | ok _ =>
              rw [hsc] at hen HR2
              obtain ⟨v4, rfl⟩ := hen
              clear hsc
              go_wp2_with fail
              all_goals (go_ret; exact After.okE HG4.out HR2.out HC4.out (by omega))
        · subst hk
          have HR : Keep (stC c (.mk 3 name index [x] thn els) d = (stsC c thn d1).bind fun t => (stsC c els t.2).bind fun u => .ok (max 2 (max n1 (max t.1 u.1)), u.2)) := ⟨by rw [HQ3.out, if_neg (by decide), if_neg (by decide), if_neg (by decide), if_pos (by decide)]⟩
          clear HQ3 HKK
          go_upto_region 16 with (fail)
          have HS3 : Keep (∀ w', w3.grownBy w' (some B) → (w'.cell? ⟨w.heap.size, 4, none⟩ = some (.slice ta thn.length tc) ∧ w'.cell? ⟨w.heap.size, 5, none⟩ = some (.slice ea els.length ec)) ∧ w3.grownBy w' (some B)) := ⟨fun w' hg => by
            have hx4 := (hg.block w.heap.size yl (fun e => HBN.out (by cases e; rfl))).trans HY3.out
            exact ⟨⟨by simp [World.cell?, hx4], by simp [World.cell?, hx4]⟩, hg⟩⟩
          have HDR := Keep.mk (grown_low (B := B) (Below.refl w3.heap.size w3).drew)
          have HT3 := Keep.mk (HP.out thn _ w3.drew d1 HT.out (HH3.out.grown HDR.out) (HC3.out.below (Below.refl _ _).drew) hd1 (by omega))
          obtain ⟨⟨y4, y5⟩, _⟩ := HS3.out w3 (grown_low (Below.refl _ _))
          obtain ⟨rt, ht⟩ : ∃ r, stsC c thn d1 = r := ⟨_, rfl⟩
          cases rt with
          | bad v =>
            replace HR := Keep.mk (HR.out.trans (congrArg (fun r => Res.bind r _) ht))
            have HTb : Keep (Calls Try.prog 65 #[.pointer (some ⟨B, 0, none⟩), .slice ta thn.length tc] w3.drew fun e w' => w3.drew.grownBy w' (some B) ∧ e = .panicked [{ v := violV v, recovered := false }]) := ⟨HT3.out.mono (by rintro e w' ⟨hg, hm⟩; rw [ht] at hm; exact ⟨hg, hm⟩)⟩
            clear ht HT3 HI HT HE HP HY3 HH3 HC3
            go_region_with (first
              | (go_at_call 65; (with_reducible refine (stmts_never hF.out _ _).mono ?_); rintro _ w5 ⟨rfl, rfl⟩)
              | (go_at_call 65; by_cases hF0 : False; (case neg => (with_reducible refine HTb.out.mono ?_); rintro _ w4 ⟨hg4, rfl⟩; exact ⟨rfl, After.bad (grown_trans HG3.out (grown_trans HDR.out hg4)) HR.out⟩); have hF := Keep.mk hF0; clear hF0; (with_reducible refine (stmts_never hF.out _ _).mono ?_); rintro _ w4 ⟨rfl, rfl⟩))
            all_goals (exact hF.out.elim)
          | ok r =>
            obtain ⟨n2, d2⟩ := r
            replace HR := Keep.mk (HR.out.trans (congrArg (fun r => Res.bind r _) ht))
            have hle := stsC_le hs thn d1 n2 d2 ht
            have hd2 : d2 ≤ K0 := by omega
            have hn2 : n2 ≤ 1000000000 := by omega
            have HTo : Keep (Calls Try.prog 65 #[.pointer (some ⟨B, 0, none⟩), .slice ta thn.length tc] w3.drew fun e w' => e = .returned (.int .i64 (n2 : Int)) ∧ w3.grownBy w' (some B) ∧ CkIn w' B G V A F O c d2) := ⟨HT3.out.mono (by rintro e w' ⟨hg, hm⟩; rw [ht] at hm; obtain ⟨rfl, hc⟩ := hm; exact ⟨rfl, grown_trans HDR.out hg, hc⟩)⟩
            have HE4 : Keep (∀ w', w3.grownBy w' (some B) → CkIn w' B G V A F O c d2 → Calls Try.prog 65 #[.pointer (some ⟨B, 0, none⟩), .slice ea els.length ec] w' fun e w'' => After w' B G V A F O c (stsC c els d2) e w'') := ⟨fun w' hg hc => HP.out els _ w' d2 HE.out (HH3.out.grown hg) hc hd2 (by omega)⟩
            have HR2 : Keep (stC c (.mk 3 name index [x] thn els) d = (stsC c els d2).bind fun u => .ok (max 2 (max n1 (max n2 u.1)), u.2)) := ⟨HR.out⟩
            clear ht HT3 HR hle
            obtain ⟨re, he⟩ : ∃ r, stsC c els d2 = r := ⟨_, rfl⟩
            cases re with
            | bad v =>
              replace HR2 := Keep.mk (HR2.out.trans (congrArg (fun r => Res.bind r _) he))
              have HEb : Keep (∀ w', w3.grownBy w' (some B) → CkIn w' B G V A F O c d2 → Calls Try.prog 65 #[.pointer (some ⟨B, 0, none⟩), .slice ea els.length ec] w' fun e w'' => w'.grownBy w'' (some B) ∧ e = .panicked [{ v := violV v, recovered := false }]) := ⟨fun w' hg hc => (HE4.out w' hg hc).mono (by rintro e w'' ⟨hg', hm⟩; rw [he] at hm; exact ⟨hg', hm⟩)⟩
              clear he HE4 HI HT HE HP HY3 HH3 HC3
              go_region_with (first
                | (go_at_call 65; (with_reducible refine HTo.out.mono ?_); rintro _ w4 ⟨rfl, hg4, hc4⟩; have HG4 := Keep.mk (And.intro hg4 hc4); obtain ⟨⟨z4, z5⟩, _⟩ := HS3.out w4 hg4; clear hg4 hc4; have zl : w.heap.size < w4.heap.size := Nat.lt_of_lt_of_le yl HG4.out.1.size)
                | (go_at_call 65; by_cases hF0 : False; (case neg => (with_reducible refine (HEb.out _ HG4.out.1 HG4.out.2).mono ?_); rintro _ w5 ⟨hg5, rfl⟩; exact ⟨rfl, After.bad (grown_trans HG3.out (grown_trans HG4.out.1 hg5)) HR2.out⟩); have hF := Keep.mk hF0; clear hF0; (with_reducible refine (stmts_never hF.out _ _).mono ?_); rintro _ w5 ⟨rfl, rfl⟩))
              all_goals (exact hF.out.elim)
            | ok u =>
              obtain ⟨n3, d3⟩ := u
              replace HR2 := Keep.mk (HR2.out.trans (congrArg (fun r => Res.bind r _) he))
              have hle := stsC_le hs els d2 n3 d3 he
              have hn3 : n3 ≤ 1000000000 := by omega
              have HEo : Keep (∀ w', w3.grownBy w' (some B) → CkIn w' B G V A F O c d2 → Calls Try.prog 65 #[.pointer (some ⟨B, 0, none⟩), .slice ea els.length ec] w' fun e w'' => e = .returned (.int .i64 (n3 : Int)) ∧ w3.grownBy w'' (some B) ∧ CkIn w'' B G V A F O c d3) := ⟨fun w' hg hc => (HE4.out w' hg hc).mono (by rintro e w'' ⟨hg', hm⟩; rw [he] at hm; obtain ⟨rfl, hc'⟩ := hm; exact ⟨rfl, grown_trans hg hg', hc'⟩)⟩
              have HRE : Keep (stC c (.mk 3 name index [x] thn els) d = .ok (max 2 (max n1 (max n2 n3)), d3)) := ⟨HR2.out⟩
              clear he HE4 HR2 hle
              have HFIN : Keep (∀ w', w3.grownBy w' (some B) → CkIn w' B G V A F O c d3 → ∀ z : Int, z = ((max 2 (max n1 (max n2 n3)) : Nat) : Int) → After w B G V A F O c (stC c (.mk 3 name index [x] thn els) d) (.returned (.int .i64 z)) w') := ⟨fun w' hg hc z hz => After.okE (grown_trans HG3.out hg) HRE.out hc hz⟩
              clear HI HT HE HP HY3 HH3 HC3 HRE
              go_region_with (first
                | (go_at_call 65; (with_reducible refine HTo.out.mono ?_); rintro _ w4 ⟨rfl, hg4, hc4⟩; have HG4 := Keep.mk (And.intro hg4 hc4); obtain ⟨⟨z4, z5⟩, _⟩ := HS3.out w4 hg4; clear hg4 hc4; have zl : w.heap.size < w4.heap.size := Nat.lt_of_lt_of_le yl HG4.out.1.size)
                | (go_at_call 65; (with_reducible refine (HEo.out _ HG4.out.1 HG4.out.2).mono ?_); rintro _ w5 ⟨rfl, hg5, hc5⟩; have HG5 := Keep.mk (And.intro hg5 hc5); clear hg5 hc5))
              all_goals (go_wp2_with fail)
              all_goals (go_ret; exact HFIN.out _ HG5.out.1 HG5.out.2 _ (by omega))
        · subst hk
          have HR : Keep (stC c (.mk 4 name index [x] thn els) d = (stsC c thn d1).bind fun t => (stsC c els t.2).bind fun u => .ok (max 2 (max n1 (max t.1 u.1)), u.2)) := ⟨by rw [HQ3.out, if_neg (by decide), if_neg (by decide), if_neg (by decide), if_pos (by decide)]⟩
          clear HQ3 HKK
          go_upto_region 16 with (fail)
          have HS3 : Keep (∀ w', w3.grownBy w' (some B) → (w'.cell? ⟨w.heap.size, 4, none⟩ = some (.slice ta thn.length tc) ∧ w'.cell? ⟨w.heap.size, 5, none⟩ = some (.slice ea els.length ec)) ∧ w3.grownBy w' (some B)) := ⟨fun w' hg => by
            have hx4 := (hg.block w.heap.size yl (fun e => HBN.out (by cases e; rfl))).trans HY3.out
            exact ⟨⟨by simp [World.cell?, hx4], by simp [World.cell?, hx4]⟩, hg⟩⟩
          have HDR := Keep.mk (grown_low (B := B) (Below.refl w3.heap.size w3).drew)
          have HT3 := Keep.mk (HP.out thn _ w3.drew d1 HT.out (HH3.out.grown HDR.out) (HC3.out.below (Below.refl _ _).drew) hd1 (by omega))
          obtain ⟨⟨y4, y5⟩, _⟩ := HS3.out w3 (grown_low (Below.refl _ _))
          obtain ⟨rt, ht⟩ : ∃ r, stsC c thn d1 = r := ⟨_, rfl⟩
          cases rt with
          | bad v =>
            replace HR := Keep.mk (HR.out.trans (congrArg (fun r => Res.bind r _) ht))
            have HTb : Keep (Calls Try.prog 65 #[.pointer (some ⟨B, 0, none⟩), .slice ta thn.length tc] w3.drew fun e w' => w3.drew.grownBy w' (some B) ∧ e = .panicked [{ v := violV v, recovered := false }]) := ⟨HT3.out.mono (by rintro e w' ⟨hg, hm⟩; rw [ht] at hm; exact ⟨hg, hm⟩)⟩
            clear ht HT3 HI HT HE HP HY3 HH3 HC3
            go_region_with (first
              | (go_at_call 65; (with_reducible refine (stmts_never hF.out _ _).mono ?_); rintro _ w5 ⟨rfl, rfl⟩)
              | (go_at_call 65; by_cases hF0 : False; (case neg => (with_reducible refine HTb.out.mono ?_); rintro _ w4 ⟨hg4, rfl⟩; exact ⟨rfl, After.bad (grown_trans HG3.out (grown_trans HDR.out hg4)) HR.out⟩); have hF := Keep.mk hF0; clear hF0; (with_reducible refine (stmts_never hF.out _ _).mono ?_); rintro _ w4 ⟨rfl, rfl⟩))
            all_goals (exact hF.out.elim)
          | ok r =>
            obtain ⟨n2, d2⟩ := r
            replace HR := Keep.mk (HR.out.trans (congrArg (fun r => Res.bind r _) ht))
            have hle := stsC_le hs thn d1 n2 d2 ht
            have hd2 : d2 ≤ K0 := by omega
            have hn2 : n2 ≤ 1000000000 := by omega
            have HTo : Keep (Calls Try.prog 65 #[.pointer (some ⟨B, 0, none⟩), .slice ta thn.length tc] w3.drew fun e w' => e = .returned (.int .i64 (n2 : Int)) ∧ w3.grownBy w' (some B) ∧ CkIn w' B G V A F O c d2) := ⟨HT3.out.mono (by rintro e w' ⟨hg, hm⟩; rw [ht] at hm; obtain ⟨rfl, hc⟩ := hm; exact ⟨rfl, grown_trans HDR.out hg, hc⟩)⟩
            have HE4 : Keep (∀ w', w3.grownBy w' (some B) → CkIn w' B G V A F O c d2 → Calls Try.prog 65 #[.pointer (some ⟨B, 0, none⟩), .slice ea els.length ec] w' fun e w'' => After w' B G V A F O c (stsC c els d2) e w'') := ⟨fun w' hg hc => HP.out els _ w' d2 HE.out (HH3.out.grown hg) hc hd2 (by omega)⟩
            have HR2 : Keep (stC c (.mk 4 name index [x] thn els) d = (stsC c els d2).bind fun u => .ok (max 2 (max n1 (max n2 u.1)), u.2)) := ⟨HR.out⟩
            clear ht HT3 HR hle
            obtain ⟨re, he⟩ : ∃ r, stsC c els d2 = r := ⟨_, rfl⟩
            cases re with
            | bad v =>
              replace HR2 := Keep.mk (HR2.out.trans (congrArg (fun r => Res.bind r _) he))
              have HEb : Keep (∀ w', w3.grownBy w' (some B) → CkIn w' B G V A F O c d2 → Calls Try.prog 65 #[.pointer (some ⟨B, 0, none⟩), .slice ea els.length ec] w' fun e w'' => w'.grownBy w'' (some B) ∧ e = .panicked [{ v := violV v, recovered := false }]) := ⟨fun w' hg hc => (HE4.out w' hg hc).mono (by rintro e w'' ⟨hg', hm⟩; rw [he] at hm; exact ⟨hg', hm⟩)⟩
              clear he HE4 HI HT HE HP HY3 HH3 HC3
              go_region_with (first
                | (go_at_call 65; (with_reducible refine HTo.out.mono ?_); rintro _ w4 ⟨rfl, hg4, hc4⟩; have HG4 := Keep.mk (And.intro hg4 hc4); obtain ⟨⟨z4, z5⟩, _⟩ := HS3.out w4 hg4; clear hg4 hc4; have zl : w.heap.size < w4.heap.size := Nat.lt_of_lt_of_le yl HG4.out.1.size)
                | (go_at_call 65; by_cases hF0 : False; (case neg => (with_reducible refine (HEb.out _ HG4.out.1 HG4.out.2).mono ?_); rintro _ w5 ⟨hg5, rfl⟩; exact ⟨rfl, After.bad (grown_trans HG3.out (grown_trans HG4.out.1 hg5)) HR2.out⟩); have hF := Keep.mk hF0; clear hF0; (with_reducible refine (stmts_never hF.out _ _).mono ?_); rintro _ w5 ⟨rfl, rfl⟩))
              all_goals (exact hF.out.elim)
            | ok u =>
              obtain ⟨n3, d3⟩ := u
              replace HR2 := Keep.mk (HR2.out.trans (congrArg (fun r => Res.bind r _) he))
              have hle := stsC_le hs els d2 n3 d3 he
              have hn3 : n3 ≤ 1000000000 := by omega
              have HEo : Keep (∀ w', w3.grownBy w' (some B) → CkIn w' B G V A F O c d2 → Calls Try.prog 65 #[.pointer (some ⟨B, 0, none⟩), .slice ea els.length ec] w' fun e w'' => e = .returned (.int .i64 (n3 : Int)) ∧ w3.grownBy w'' (some B) ∧ CkIn w'' B G V A F O c d3) := ⟨fun w' hg hc => (HE4.out w' hg hc).mono (by rintro e w'' ⟨hg', hm⟩; rw [he] at hm; obtain ⟨rfl, hc'⟩ := hm; exact ⟨rfl, grown_trans hg hg', hc'⟩)⟩
              have HRE : Keep (stC c (.mk 4 name index [x] thn els) d = .ok (max 2 (max n1 (max n2 n3)), d3)) := ⟨HR2.out⟩
              clear he HE4 HR2 hle
              have HFIN : Keep (∀ w', w3.grownBy w' (some B) → CkIn w' B G V A F O c d3 → ∀ z : Int, z = ((max 2 (max n1 (max n2 n3)) : Nat) : Int) → After w B G V A F O c (stC c (.mk 4 name index [x] thn els) d) (.returned (.int .i64 z)) w') := ⟨fun w' hg hc z hz => After.okE (grown_trans HG3.out hg) HRE.out hc hz⟩
              clear HI HT HE HP HY3 HH3 HC3 HRE
              go_region_with (first
                | (go_at_call 65; (with_reducible refine HTo.out.mono ?_); rintro _ w4 ⟨rfl, hg4, hc4⟩; have HG4 := Keep.mk (And.intro hg4 hc4); obtain ⟨⟨z4, z5⟩, _⟩ := HS3.out w4 hg4; clear hg4 hc4; have zl : w.heap.size < w4.heap.size := Nat.lt_of_lt_of_le yl HG4.out.1.size)
                | (go_at_call 65; (with_reducible refine (HEo.out _ HG4.out.1 HG4.out.2).mono ?_); rintro _ w5 ⟨rfl, hg5, hc5⟩; have HG5 := Keep.mk (And.intro hg5 hc5); clear hg5 hc5))
              all_goals (go_wp2_with fail)
              all_goals (go_ret; exact HFIN.out _ HG5.out.1 HG5.out.2 _ (by omega))
        · have HR : Keep (stC c (.mk 5 name index [x] thn els) d = .ok (n1, d1)) := ⟨by rw [HQ3.out, if_neg (by decide), if_neg (by decide), if_pos rfl]⟩
          go_wp2_with fail
          go_ret
          exact After.ok HG3.out HR.out HC3.out
        · have HR : Keep (stC c (.mk 6 name index [x] thn els) d = .ok (max 2 n1, d1)) := ⟨by rw [HQ3.out, if_neg (by decide), if_neg (by decide), if_neg (by decide), if_neg (by decide)]⟩
          go_wp2_with fail
          all_goals (go_ret; exact After.okE HG3.out HR.out HC3.out (by omega))
end Go.Proofs.Ytgimdbflpdmlmaa
