/- The checker's stmts. Condition: bounds. -/
import Derived.Test.YtgimdbflpdmlmaaCkStmt
namespace Go.Proofs.Ytgimdbflpdmlmaa
set_option maxRecDepth 100000
open Go.RowKit Go.Shelf Go.Proofs.Ytgimdbflpdmlmaa.Ck

theorem St.eta (s : St) : St.mk s.kind s.name s.index s.value s.thn s.els = s := by cases s; rfl
set_option maxHeartbeats 8000000 in
theorem stmts_any {w0 : World} {B G V A F O : Nat} {c : Cx} {K0 : Nat} (hs : Small c K0) (n : Nat) : StsP w0 B G V A F O c K0 n := by
  induction n with
  | zero =>
    intro l v w d hS hH hC hd hK
    obtain ⟨rfl, a, cap, rfl, hcap⟩ := hS
    have HR : Keep (stsC c [] d = .ok (0, d)) := ⟨stsC_nil c d⟩
    have HC := Keep.mk hC
    unfold maxLen at hcap
    clear hC hH
    go_enter Try.func65, Try.ntmps65
    go_wp2_with fail
    go_loop [10, 5] (fun i s5 => i = .int .i64 0 ∧ s5 = .int .i64 0) (fun i _ => 0 - (intOf i).toNat)
    case atStart => exact ⟨rfl, rfl⟩
    case round =>
      obtain ⟨rfl, rfl⟩ := hrel
      go_wp2_with fail
      go_ret
      exact After.ok (grown_low (Below.refl _ _)) HR.out HC.out
  | succ n ih =>
    intro l v w d hS hH hC hd hK
    have HS := Keep.mk hS
    obtain ⟨ua, ucap, rfl, hu1, hu2⟩ := hS.len
    have HH := Keep.mk hH
    have HC := Keep.mk hC
    have IH := Keep.mk ih
    have hll := length_nodesS l
    unfold maxLen at hu2
    clear hS hH hC ih
    go_enter Try.func65, Try.ntmps65
    go_wp2_with fail
    go_loopw [10, 5] (fun i s5 wr => ∃ (k m d' : Nat), k ≤ l.length ∧ i = .int .i64 k ∧ s5 = .int .i64 m ∧ d' ≤ K0 ∧ m ≤ 1000000000 ∧ Keep (stsC c (l.take k) d = .ok (m, d')) ∧ Keep (CkIn wr B G V A F O c d') ∧ Keep (w.grownBy wr (some B))) (fun i _ _ => l.length - (intOf i).toNat)
    case atStart => exact ⟨0, 0, d, Nat.zero_le _, rfl, rfl, hd, by omega, ⟨by rw [List.take_zero, stsC_nil]⟩, HC, ⟨grown_low (Below.refl _ _)⟩⟩
    case round =>
      obtain ⟨k, m, d', hk, rfl, rfl, hd', hm, HX, HCr, HGr⟩ := hrel
      clear HC
      by_cases hlt : k < l.length
      · have k0 : (0 : Int) ≤ k := by omega
        have k1 : (k : Int) < l.length := by omega
        obtain ⟨s, hsk⟩ : ∃ s, l[k]? = some s := ⟨_, List.getElem?_eq_getElem hlt⟩
        obtain ⟨mm, b, o, cap, ui, uv, ut, ue, hnm, hua, hb, x0, x1, x2, x3, x4, x5, hI, hV, hT, hE⟩ := HS.out.get hsk
        obtain rfl : n = mm := by omega
        simp only [Value.slice.injEq, true_and] at hua
        obtain ⟨rfl, rfl⟩ := hua
        have HHr := Keep.mk (HH.out.grown HGr.out)
        have z0 := (HHr.out.low.cell (p := ⟨b, o + k * 6, none⟩) hb).trans x0
        have z1 := (HHr.out.low.cell (p := ⟨b, o + k * 6 + 1, none⟩) hb).trans x1
        have z2 := (HHr.out.low.cell (p := ⟨b, o + k * 6 + 2, none⟩) hb).trans x2
        have z3 := (HHr.out.low.cell (p := ⟨b, o + k * 6 + 3, none⟩) hb).trans x3
        have z4 := (HHr.out.low.cell (p := ⟨b, o + k * 6 + 4, none⟩) hb).trans x4
        have z5 := (HHr.out.low.cell (p := ⟨b, o + k * 6 + 5, none⟩) hb).trans x5
        have hbl : b < wr.heap.size := Nat.lt_of_lt_of_le hb HHr.out.low.size
        have hng := nodesS_get hsk
        have HSK := Keep.mk hsk
        obtain ⟨m1, hI⟩ := hI
        obtain ⟨m2, hV⟩ := hV
        obtain ⟨a1, c1, rfl, _, _⟩ := hI.len
        obtain ⟨a2, c2, rfl, _, _⟩ := hV.len
        obtain ⟨a3, c3, rfl, _, _⟩ := hT.len
        obtain ⟨a4, c4, rfl, _, _⟩ := hE.len
        have HI := Keep.mk hI
        have HV := Keep.mk hV
        have HT := Keep.mk hT
        have HE := Keep.mk hE
        clear x0 x1 x2 x3 x4 x5 hsk hI hV hT hE
        go_upto_region 5 with (fail)
        have hbs : Below wr.heap.size wr (wr.alloc (.cells #[.int .i64 s.kind, .string s.name, .slice a1 s.index.length c1, .slice a2 s.value.length c2, .slice a3 s.thn.length c3, .slice a4 s.els.length c4] 46)) := (Below.refl _ _).alloc (Nat.le_refl _) _
        have HCs := Keep.mk (HCr.out.below hbs)
        have HGs := Keep.mk (grown_trans HGr.out (grown_low hbs))
        have HHs := Keep.mk (HH.out.grown HGs.out)
        have hZ : (wr.alloc (.cells #[.int .i64 s.kind, .string s.name, .slice a1 s.index.length c1, .slice a2 s.value.length c2, .slice a3 s.thn.length c3, .slice a4 s.els.length c4] 46)).heap[wr.heap.size]? = some (.cells #[.int .i64 s.kind, .string s.name, .slice a1 s.index.length c1, .slice a2 s.value.length c2, .slice a3 s.thn.length c3, .slice a4 s.els.length c4] 46 (0, 0)) := heap_alloc_new wr _
        have HZ := Keep.mk hZ
        have pl : wr.heap.size < (wr.alloc (.cells #[.int .i64 s.kind, .string s.name, .slice a1 s.index.length c1, .slice a2 s.value.length c2, .slice a3 s.thn.length c3, .slice a4 s.els.length c4] 46)).heap.size := by simp
        clear hZ hbs z0 z1 z2 z3 z4 z5 hbl HCr HGr HHr
        generalize (wr.alloc (.cells #[.int .i64 s.kind, .string s.name, .slice a1 s.index.length c1, .slice a2 s.value.length c2, .slice a3 s.thn.length c3, .slice a4 s.els.length c4] 46)) = ws at *
        have p0 : ws.cell? ⟨wr.heap.size, 0, none⟩ = some (.int .i64 s.kind) := by simp only [World.cell?, HZ.out]; rfl
        have p1 : ws.cell? ⟨wr.heap.size, 1, none⟩ = some (.string s.name) := by simp only [World.cell?, HZ.out]; rfl
        have p2 : ws.cell? ⟨wr.heap.size, 2, none⟩ = some (.slice a1 s.index.length c1) := by simp only [World.cell?, HZ.out]; rfl
        have p3 : ws.cell? ⟨wr.heap.size, 3, none⟩ = some (.slice a2 s.value.length c2) := by simp only [World.cell?, HZ.out]; rfl
        have p4 : ws.cell? ⟨wr.heap.size, 4, none⟩ = some (.slice a3 s.thn.length c3) := by simp only [World.cell?, HZ.out]; rfl
        have p5 : ws.cell? ⟨wr.heap.size, 5, none⟩ = some (.slice a4 s.els.length c4) := by simp only [World.cell?, HZ.out]; rfl
        have HI9 := Keep.mk (stmt_any hs IH.out (k := s.kind) (name := s.name) (d := d') ⟨m1, HI.out⟩ ⟨m2, HV.out⟩ HT.out HE.out HHs.out HCs.out hd' (by rw [St.eta]; omega))
        rw [St.eta] at HI9
        go_wp2_with fail
        refine HI9.out.mono ?_
        rintro e' w4 hAf
        clear p0 p1 p2 p3 p4 p5 pl HZ HI9
        obtain ⟨r, hx⟩ : ∃ r, stC c s d' = r := ⟨_, rfl⟩
        rw [hx] at hAf
        cases r with
        | bad v =>
          obtain ⟨hg4, rfl⟩ := hAf
          have hsplit : l = l.take k ++ s :: l.drop (k + 1) := by
            obtain ⟨hk2, he2⟩ := List.getElem?_eq_some_iff.1 HSK.out
            rw [← he2, ← List.drop_eq_getElem_cons hk2, List.take_append_drop]
          have hbad := stsC_bad (m := l.drop (k + 1)) HX.out hx
          rw [← hsplit] at hbad
          exact ⟨rfl, After.bad (grown_trans HGs.out hg4) hbad⟩
        | ok q =>
          obtain ⟨n1, d2⟩ := q
          obtain ⟨hg4, rfl, hc4⟩ := hAf
          have hle := stC_le hs s d' n1 d2 hx
          have HX2 : Keep (stsC c (l.take (k + 1)) d = .ok (max m n1, d2)) := ⟨by
            rw [List.take_add_one, HSK.out]
            exact stsC_snoc_ok HX.out hx⟩
          have HC4 := Keep.mk hc4
          have HG4 := Keep.mk (grown_trans HGs.out hg4)
          have hd2 : d2 ≤ K0 := by omega
          have hn1 : n1 ≤ 1000000000 := by omega
          clear hg4 hc4 hx HCs HGs HHs hle
          go_wp2_with fail
          all_goals (go_round)
          all_goals first
            | (case rel => exact ⟨k + 1, max m n1, d2, by omega, by go_num, by congr 1; omega, hd2, by omega, HX2, HC4, HG4⟩)
            | (case measure => simp [intOf]; omega)
      · have hka : k = l.length := by omega
        subst hka
        rw [List.take_length] at HX
        clear IH
        go_wp2_with fail
        go_ret
        exact After.ok HGr.out HX.out HCr.out
end Go.Proofs.Ytgimdbflpdmlmaa
