/- The law SparseThreshold: a run of zero bytes between data without such runs is a hole if and only if it has at least 32 bytes, and the hole has its length. No condition. -/
import Derived.Test.YtgoipkilpmjecaaSparseCanonical
namespace Go.Proofs.Ytgoipkilpmjecaa
open Go.RowKit Go.Shelf Go.Proofs.Ytgoipkilpmjecaa.Sparse Go.ChangeShapes Go.WideShapes Go.ChangeAt

theorem suffix_one (l : List UInt8) (c : UInt8) : Lib.hasSuffix l [c] = false ↔ l.getLast? ≠ some c := by
  unfold Lib.hasSuffix List.isSuffixOf
  rw [List.reverse_singleton, ← List.head?_reverse]
  cases l.reverse with
  | nil => simp
  | cons a t =>
    simp only [List.isPrefixOf_cons_cons, List.isPrefixOf_nil_left, Bool.and_true, List.head?_cons, ne_eq, Option.some.injEq, beq_eq_false_iff_ne]
    exact ⟨fun h e => h e.symm, fun h e => h e.symm⟩
theorem prefix_one (l : List UInt8) (c : UInt8) : Lib.hasPrefix l [c] = false ↔ l.head? ≠ some c := by
  unfold Lib.hasPrefix
  cases l with
  | nil => simp
  | cons a t =>
    simp only [List.isPrefixOf_cons_cons, List.isPrefixOf_nil_left, Bool.and_true, List.head?_cons, ne_eq, Option.some.injEq, beq_eq_false_iff_ne]
    exact ⟨fun h e => h e.symm, fun h e => h e.symm⟩
/-- The number of holes. -/
def holesN (x : List Seg) : Nat := (x.filter fun y => y.2.isEmpty).length
theorem holesN_take {x : List Seg} {k : Nat} {y : Seg} (h : x[k]? = some y) : holesN (x.take (k + 1)) = holesN (x.take k) + if y.2.isEmpty then 1 else 0 := by
  unfold holesN
  rw [List.take_add_one, h, List.filter_append, List.length_append]
  congr 1
  cases hy : y.2.isEmpty <;> simp [hy]
theorem holesN_dataL (a : List UInt8) : holesN (dataL a) = 0 := by
  unfold dataL holesN
  split
  · rfl
  · rename_i h; simp [h]
theorem hole_facts {f g : List UInt8} {n : Nat} (hf : NoRun 32 f) (hg : NoRun 32 g) (hl : f.getLast? ≠ some 0) (hh : g.head? ≠ some 0) :
    (∀ y ∈ segs (f ++ (List.replicate n 0 ++ g)), y.2 = [] → y.1 = n) ∧ holesN (segs (f ++ (List.replicate n 0 ++ g))) = (if n < 32 then 0 else 1) ∧
      (n < 32 → (segs (f ++ (List.replicate n 0 ++ g))).length = if f ++ (List.replicate n 0 ++ g) = [] then 0 else 1) := by
  rw [segs_run hf hg hl hh]
  have hd : ∀ a : List UInt8, ∀ y ∈ dataL a, y.2 ≠ [] := fun a y hy => by
    unfold dataL at hy
    split at hy
    · cases hy
    · rename_i h
      rw [List.mem_singleton] at hy
      rw [hy]; exact h
  split
  · refine ⟨fun y hy h => absurd h (hd _ y hy), holesN_dataL _, fun _ => ?_⟩
    unfold dataL
    split <;> rfl
  · rename_i hn
    refine ⟨fun y hy h => ?_, ?_, fun h => absurd h hn⟩
    · rcases List.mem_append.1 hy with hy | hy
      · exact absurd h (hd _ y hy)
      · rcases List.mem_cons.1 hy with rfl | hy
        · rfl
        · exact absurd h (hd _ y hy)
    · have h1 := holesN_dataL f
      have h2 := holesN_dataL g
      unfold holesN at *
      rw [List.filter_append, List.length_append, h1, List.filter_cons, if_pos (by rfl), List.length_cons, h2]

set_option maxRecDepth 100000 in
set_option maxHeartbeats 2000000 in
theorem sparseThreshold_any (f g : ByteArray) (n : Nat) (m : Int) (w : World) (hn : n ≤ 255) (hf : f.size ≤ reachBytes) (hg : g.size ≤ reachBytes) (hm : MaxAt w m) :
    Calls Try.prog 10 #[.string f, .string g, .int .u8 n] w fun e w' => e = .returned (.bool true) ∧ Below w.heap.size w w' := by
  unfold reachBytes at hf hg
  by_cases hbig : 600 < f.size + g.size
  · have hbig' : (600 : Int) < (f.size : Int) + (g.size : Int) := by omega
    go_enter Try.func10, Try.ntmps10
    go_wp2_with fail
    refine (awake_any _).mono ?_
    rintro e w2 ⟨rfl, hb2⟩
    go_wp2
    go_ret
    exact ⟨rfl, hb2⟩
  · have hbig' : ¬ (600 : Int) < (f.size : Int) + (g.size : Int) := by omega
    have hcat := fun (wx : World) => run_string_add_sum (P := Try.prog) wx f g (by omega)
    have hC := fun (wx : World) (h : MaxAt wx m) => Try.strings_Contains (f ++ g) ⟨#[0, 0]⟩ m wx (by rw [ByteArray.size_append]; omega) h
    have hS := fun (wx : World) => Try.strings_HasSuffix f ⟨#[0]⟩ wx (by omega)
    have hP := fun (wx : World) => Try.strings_HasPrefix g ⟨#[0]⟩ wx
    have k1 := contains_zeros 2 (by decide) (f ++ g).data.toList
    have k2 := suffix_one f.data.toList 0
    have k3 := prefix_one g.data.toList 0
    have e1 : (⟨#[0, 0]⟩ : ByteArray).data.toList = List.replicate 2 0 := rfl
    have e2 : (⟨#[0]⟩ : ByteArray).data.toList = [0] := rfl
    rw [e1] at hC
    rw [e2] at hS hP
    generalize Lib.contains (f ++ g).data.toList (List.replicate 2 0) = c1 at *
    generalize Lib.hasSuffix f.data.toList [0] = c2 at *
    generalize Lib.hasPrefix g.data.toList [0] = c3 at *
    have hC' := Keep.mk hC
    have hS' := Keep.mk hS
    have hP' := Keep.mk hP
    have K1 := Keep.mk k1
    have K2 := Keep.mk k2
    have K3 := Keep.mk k3
    generalize hfg : f ++ g = fg at *
    have HFG := Keep.mk hfg
    clear hC hS hP k1 k2 k3 e1 e2 hfg
    go_enter Try.func10, Try.ntmps10
    go_wp2_with fail
    refine (hC'.out w hm).mono ?_
    rintro e w' ⟨rfl, rfl⟩
    cases c1 with
    | true =>
      go_wp2_with fail
      refine (awake_any _).mono ?_
      rintro e w2 ⟨rfl, hb2⟩
      go_wp2
      go_ret
      exact ⟨rfl, hb2⟩
    | false =>
      go_wp2_with fail
      refine (hS'.out _).mono ?_
      rintro e w1 ⟨rfl, rfl⟩
      cases c2 with
      | true =>
        go_wp2_with fail
        refine (awake_any _).mono ?_
        rintro e w2 ⟨rfl, hb2⟩
        go_wp2
        go_ret
        exact ⟨rfl, hb2⟩
      | false =>
        go_wp2_with fail
        refine (hP'.out _).mono ?_
        rintro e w2 ⟨rfl, rfl⟩
        cases c3 with
        | true =>
          go_wp2_with fail
          refine (awake_any _).mono ?_
          rintro e w2 ⟨rfl, hb2⟩
          go_wp2
          go_ret
          exact ⟨rfl, hb2⟩
        | false =>
          have r0 := K1.out.1 (by trivial)
          have r1 := K2.out.1 (by trivial)
          have r2 := K3.out.1 (by trivial)
          rw [← HFG.out] at r0
          have efg : (f ++ g).data.toList = f.data.toList ++ g.data.toList := by simp
          rw [efg] at r0
          have facts := hole_facts (n := n) (noRun_more (noRun_left r0) (by decide)) (noRun_more (noRun_right r0) (by decide)) r1 r2
          have hcv : IntKind.i64.wrap ((n : Nat) : Int) = ((n : Nat) : Int) := IntWalk.i64_in _ (by omega)
          have hrep := fun (wx : World) => repeat_any ⟨#[0]⟩ (n : Int) wx (by omega) (by rw [Int.toNat_natCast, show (⟨#[0]⟩ : ByteArray).size = 1 from rfl]; omega) (by omega)
          have hrv : mkS (Lib.repeatL (⟨#[0]⟩ : ByteArray).data.toList ((n : Int)).toNat) = mkS (List.replicate n 0) := by rw [repeatL_zero]; rfl
          rw [hrv] at hrep
          obtain ⟨r, hr⟩ : ∃ r, r = mkS (List.replicate n 0) := ⟨_, rfl⟩
          have hrz : r.size = n := by rw [hr, size_mkS]; simp
          have hsl : (f ++ r ++ g).data.toList = f.data.toList ++ (List.replicate n 0 ++ g.data.toList) := by rw [hr]; simp [mkS]
          rw [← hr] at hrep
          have hfr : (f ++ r).size = f.size + r.size := ByteArray.size_append
          have hfrg : (f ++ r ++ g).size = f.size + r.size + g.size := by rw [ByteArray.size_append, hfr]
          have hcat1 := fun (wx : World) => run_string_add_sum (P := Try.prog) wx f r (by omega)
          have hcat2 := fun (wx : World) => run_string_add_sum (P := Try.prog) wx (f ++ r) g (by omega)
          rw [← hsl] at facts
          generalize hs : f ++ r ++ g = s at *
          have hsz : s.size ≤ 1000000 := by omega
          have hse : s.toList.isEmpty = decide (s.data.toList = []) := by
            rw [Lib.toList_data]
            cases s.data.toList <;> simp
          have FACTS := Keep.mk facts
          have HREP := Keep.mk hrep
          have HSE := Keep.mk hse
          have hn1 : (n : Int) ≤ 255 := by omega
          clear efg r0 r1 r2 facts hrv hr hrz hsl hfr hfrg hrep hse hs HFG K1 K2 K3 hC' hS' hP'
          go_wp2_with fail
          refine (HREP.out _).mono ?_
          rintro e w1 ⟨rfl, hb1⟩
          go_wp2_with fail
          refine (segs_strs s w1 hsz).mono ?_
          rintro e w2 ⟨v2, rfl, hS2, hb2⟩
          have hB2 := held_on hb2 hb1
          obtain ⟨a, c, rfl, h1, h2, h3⟩ := hS2.parts
          have H3 := Keep.mk h3
          have hB2' := Keep.mk hB2
          have hls := length_segs s.data.toList
          rw [data_len'] at hls
          have hlen : (segs s.data.toList).length ≤ 1000000 := by omega
          clear h3 hS2 hb1 hb2 hls hB2 hcat1 hcat2
          generalize segs s.data.toList = x at *
          go_wp2
          go_loopw [9, 45] (fun h i wr => ∃ k H : Nat, k ≤ x.length ∧ i = .int .i64 k ∧ h = .int .i64 H ∧ H ≤ k ∧ Keep (H = holesN (x.take k)) ∧ Below w2.heap.size w2 wr) (fun _ i _ => x.length - (intOf i).toNat)
          case atStart => exact ⟨0, 0, Nat.zero_le _, rfl, rfl, Nat.le_refl _, ⟨rfl⟩, Below.refl _ _⟩
          case round =>
            obtain ⟨k, H, hk, rfl, rfl, hH, HH, hbr⟩ := hrel
            by_cases hlt : k < x.length
            · obtain ⟨⟨z, d⟩, hx⟩ : ∃ y, x[k]? = some y := ⟨_, List.getElem?_eq_getElem hlt⟩
              obtain ⟨b, o, rfl, hb, hc1, hc2⟩ := H3.out k _ hx
              have hc1' := (hbr.cell (p := ⟨b, o + k * 2, none⟩) hb).trans hc1
              have hc2' := (hbr.cell (p := ⟨b, o + k * 2 + 1, none⟩) hb).trans hc2
              have ht := holesN_take hx
              have hz := FACTS.out.1 _ (List.mem_of_getElem? hx)
              dsimp only at hc1' hc2' ht hz
              obtain ⟨S, hSd⟩ : ∃ S, S = mkS d := ⟨_, rfl⟩
              have hSe : S.toList.isEmpty = d.isEmpty := by rw [hSd, Lib.toList_data, data_mkS]
              rw [← hSd] at hc2'
              have hbs := hbr.size
              have hfin : Below w2.heap.size w2 (wr.alloc (.cells #[.int .i64 z, .string S] 45)) := hbr.alloc hbs _
              clear hc1 hc2 hx hSd
              cases hd : d.isEmpty with
              | true =>
                rw [hd] at hSe ht
                obtain rfl : z = (n : Int) := hz (by simpa using hd)
                have HT := Keep.mk ht
                clear hd ht hz
                go_wp2
                go_roundw
                case rel => exact ⟨k + 1, H + 1, by omega, by go_num, by go_num, by omega, ⟨by rw [HT.out, ← HH.out]; rfl⟩, hfin⟩
                case measure => simp [intOf]; omega
              | false =>
                rw [hd] at hSe ht
                have HT := Keep.mk ht
                clear hd ht hz
                go_wp2
                go_roundw
                case rel => exact ⟨k + 1, H, by omega, by go_num, rfl, by omega, ⟨by rw [HT.out, ← HH.out]; rfl⟩, hfin⟩
                case measure => simp [intOf]; omega
            · have hall : H = if n < 32 then 0 else 1 := by
                rw [HH.out, List.take_of_length_le (by omega)]; exact FACTS.out.2.1
              have hB3 := Keep.mk (held_on hbr hB2'.out)
              clear HH hbr
              by_cases hn32 : n < 32
              · rw [if_pos hn32] at hall
                have hxl := FACTS.out.2.2 hn32
                have hn32' : (n : Int) < 32 := by omega
                have hk0 : k = x.length := by omega
                subst hall
                clear hn32 hk0
                by_cases hs0 : s.data.toList = []
                · rw [if_pos hs0] at hxl
                  have hse := HSE.out
                  rw [decide_eq_true hs0] at hse
                  have hlw : ((x.length : Int) == 0) = true := by simp [hxl]
                  clear hs0 hxl
                  go_wp2_with fail
                  refine (awake_any _).mono ?_
                  rintro e w3 ⟨rfl, hb3⟩
                  go_wp2
                  go_ret
                  exact ⟨rfl, held_on hb3 hB3.out⟩
                · rw [if_neg hs0] at hxl
                  have hse := HSE.out
                  rw [decide_eq_false hs0] at hse
                  have hlw : ((x.length : Int) == 1) = true := by simp [hxl]
                  clear hs0 hxl
                  go_wp2_with fail
                  refine (awake_any _).mono ?_
                  rintro e w3 ⟨rfl, hb3⟩
                  go_wp2
                  go_ret
                  exact ⟨rfl, held_on hb3 hB3.out⟩
              · rw [if_neg hn32] at hall
                have hn32' : ¬ (n : Int) < 32 := by omega
                subst hall
                clear hn32
                go_wp2_with fail
                refine (awake_any _).mono ?_
                rintro e w3 ⟨rfl, hb3⟩
                go_wp2
                go_ret
                exact ⟨rfl, held_on hb3 hB3.out⟩

theorem SparseThreshold_walk : LawWalkS 10 Try.f10 := by
  intro H enc W base args ds ps hval hA hsz hsh
  rw [Try.params10] at hA hval hsz
  obtain ⟨v0, vs0, d0, ds0, p0, q0, hargs, rfl, rfl, h0, r0⟩ := trodAll_cons hA
  obtain ⟨v1, vs1, d1, ds1, p1, q1, rfl, rfl, rfl, h1, r1⟩ := trodAll_cons r0
  obtain ⟨v2, vs2, d2, ds2, p2, q2, rfl, rfl, rfl, h2, r2⟩ := trodAll_cons r1
  obtain ⟨rfl, rfl, rfl⟩ := trodAll_nil r2
  obtain rfl : args = #[v0, v1, v2] := by cases args; simp_all
  obtain ⟨f, rfl, rfl, rfl, _⟩ := Go.ChangeMaps.open_string Try.underlying9 (hval 0 9 v0 rfl rfl) h0
  obtain ⟨g, rfl, rfl, rfl, _⟩ := Go.ChangeMaps.open_string Try.underlying9 (hval 1 9 v1 rfl rfl) h1
  obtain ⟨n, rfl, rfl, rfl, hn⟩ := open_int Try.underlying5 (hval 2 5 v2 rfl rfl) h2
  have hn' : 0 ≤ n ∧ n ≤ 255 := by simpa [Lit.wf, IntKind.min, IntKind.max, IntKind.signed, IntKind.bits] using hn
  obtain ⟨n, rfl⟩ := Int.eq_ofNat_of_zero_le hn'.1
  have hf := sized_string hsz (j := 0) (t := 9) rfl rfl
  have hg := sized_string hsz (j := 1) (t := 9) rfl rfl
  rw [data_len'] at hf hg
  obtain ⟨m, hm⟩ := maxAt_of hsh
  exact sparseThreshold_any f g n m W (by omega) hf hg hm
end Go.Proofs.Ytgoipkilpmjecaa
namespace Go.Proofs.Ytgoipkilpmjecaa
open Go.ChangeShapes Go.WideShapes Go.ChangeAt Go.RowKit
set_option maxRecDepth 100000 in
theorem SparseThreshold_lifted (os : Os) (started : os.Started) (H : Type) (enc : TypeId × Value → H) :
    ReturnsInHanded {} Try.checked os 10 .any (Rows.sparseThresholdSpec.pre6 enc Try.prog Try.f10 Rows.sparseThresholdRow.domain false) (Rows.sparseThresholdSpec.post enc Try.prog Try.f10 false true false false) := by
  refine returnsInHanded_of_change_shaped (C := Try.checked) own started (by kernel_rfl) Try.func10
    (ChangeSpec.witness6 (enc := enc) (C := Try.checked) false ⟨#[], #[.string .empty, .string .empty, .int .u8 0], []⟩ 8 (by kernel_rfl) (by kernel_rfl) (by kernel_rfl) (by kernel_rfl)) ?_
  exact law_contract_shaped (by kernel_rfl) (by kernel_rfl) ⟨rfl, fun H ds h => by rw [Try.params10] at h; match ds, h with | [d0, d1, d2], _ => rfl⟩ SparseThreshold_walk
theorem SparseThreshold_over : Rows.sparseThresholdRow.holds Try.pinned (OpenSpec.ofChange Rows.sparseThresholdSpec) :=
  OpenClaim.holds_of_wide 10 Try.f10 rfl rfl rfl rfl rfl rfl rfl ⟨rfl, rfl, rfl, rfl, rfl⟩ rfl rfl rfl rfl rfl (by kernel_rfl) Try.func10 (by kernel_rfl)
    (of_decide_eq_true (by kernel_rfl)) (by unfold Func.isWrapper; first | (rw [if_pos (by decide +kernel)]; kernel_rfl) | (rw [if_neg (by decide +kernel)]; exact ⟨rfl, rfl⟩))
    (fun os started H enc _ => SparseThreshold_lifted os started H enc)
theorem SparseThreshold_proved : Rows.SparseThresholdSaid := SparseThreshold_over
end Go.Proofs.Ytgoipkilpmjecaa
