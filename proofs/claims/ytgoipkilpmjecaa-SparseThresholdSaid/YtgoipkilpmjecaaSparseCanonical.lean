/- The law SparseCanonical: holes and data alternate, holes have at least 32 bytes, data has no zero byte next to a hole and no 32 consecutive zero bytes. No condition. -/
import Derived.Test.YtgoipkilpmjecaaSparseRoundTrip
import Derived.Test.YtgoipkilpmjecaaSparseCanon
import Derived.Test.YtgoipkilpmjecaaLawShaped
import Derived.Test.YtgoipkilpmjecaaClass
namespace Go.Proofs.Ytgoipkilpmjecaa
open Go.RowKit Go.Shelf Go.Proofs.Ytgoipkilpmjecaa.Sparse Go.ChangeShapes Go.WideShapes Go.ChangeAt

/-- The library's own variable holds some number. -/
def MaxAt (w : World) (m : Int) : Prop := w.cell? ⟨0, 0, none⟩ = some (.int .i64 m)
theorem maxAt_of {w : World} (h : w.ShapedOpen Try.prog) : ∃ m, MaxAt w m :=
  cell_of_shapedOpen_int (P := Try.prog) (g := 0) (t := 3) (zero := #[.int .i64 0]) h (of_decide_eq_true (by kernel_rfl)) (by kernel_rfl) rfl (by kernel_rfl) (by kernel_rfl) Try.underlying3
theorem MaxAt.below {w w' : World} {m : Int} (h : MaxAt w m) (hb : Below w.heap.size w w') : MaxAt w' m := (hb.cell (p := ⟨0, 0, none⟩) (cell_lt h)).trans h
theorem contains_any (s : ByteArray) (n : Nat) (m : Int) (w : World) (hs : s.size < 4294967281) (hm : MaxAt w m) (hn : 0 < n) (h : NoRun n s.data.toList) :
    Calls Try.prog 25 #[.string s, .string (mkS (List.replicate n 0))] w fun e w' => e = .returned (.bool false) ∧ w = w' :=
  (Try.strings_Contains s (mkS (List.replicate n 0)) m w hs hm).mono fun e w' ⟨he, hw⟩ => ⟨by rw [he, data_mkS, (contains_zeros n hn _).2 h], hw.symm⟩

theorem byte_at {S : ByteArray} {d : List UInt8} (h : S = mkS d) (i : Nat) (hi : i < S.size) : d[i]? = some S[i] := by
  have e : d = S.data.toList := by rw [h, data_mkS]
  rw [e, List.getElem?_eq_getElem (by simpa using hi)]
  rfl
theorem seg_len {x : List Seg} {k : Nat} {y : Seg} (h : x[k]? = some y) : y.2.length ≤ (expand x).length := by
  have e := expand_take h
  have := expand_take_le x (k + 1)
  rw [e] at this
  simp only [List.length_append] at this
  omega

set_option maxRecDepth 100000 in
set_option maxHeartbeats 2000000 in
theorem sparseCanonical_any (v : Value) (l : List (ByteArray × Int)) (m : Int) (w : World) (hv : PartsIn w v l) (hm : MaxAt w m) :
    Calls Try.prog 9 #[v] w fun e w' => e = .returned (.bool true) ∧ Below w.heap.size w w' := by
  go_enter Try.func9, Try.ntmps9
  go_wp2_with fail
  refine (content_any v l w hv).mono ?_
  rintro e w1 ⟨s, ok, rfl, hok, hb1⟩
  have hz1 := hb1.size
  cases ok with
  | false =>
    clear hok
    go_wp2_with fail
    refine (awake_any _).mono ?_
    rintro e w2 ⟨rfl, hb2⟩
    go_wp2
    go_ret
    exact ⟨rfl, held_on hb2 hb1⟩
  | true =>
    have hs := hok rfl
    clear hok
    go_wp2_with fail
    refine (segs_strs s w1 (by omega)).mono ?_
    rintro e w2 ⟨v2, rfl, hS2, hb2⟩
    have hB2 := held_on hb2 hb1
    have hg := Keep.mk (good_segs s.data.toList)
    have hls := length_segs s.data.toList
    have hexp : Keep (expand (segs s.data.toList) = s.data.toList) := ⟨expand_segs _⟩
    rw [data_len'] at hls
    obtain ⟨a, c, rfl, h1, h2, h3⟩ := hS2.parts
    have H3 := Keep.mk h3
    have hB2' := Keep.mk hB2
    have HM := Keep.mk (hm.below hB2)
    have hlen : (segs s.data.toList).length ≤ 2000 := by omega
    clear h3 hS2 hb1 hb2 hz1 hm hls
    generalize segs s.data.toList = x at *
    go_wp2
    go_loopw [21] (fun i wr => ∃ k : Nat, k ≤ x.length ∧ i = .int .i64 k ∧ Below w2.heap.size w2 wr) (fun i _ => x.length - (intOf i).toNat)
    case atStart => exact ⟨0, Nat.zero_le _, rfl, Below.refl _ _⟩
    case round =>
      obtain ⟨k, hk, rfl, hbr⟩ := hrel
      by_cases hlt : k < x.length
      · obtain ⟨⟨n, d⟩, hx⟩ : ∃ y, x[k]? = some y := ⟨_, List.getElem?_eq_getElem hlt⟩
        obtain ⟨b, o, rfl, hb, hc1, hc2⟩ := H3.out k _ hx
        have hok := good_at hg.out k _ hx
        have hc1' := (hbr.cell (p := ⟨b, o + k * 2, none⟩) hb).trans hc1
        have hc2' := (hbr.cell (p := ⟨b, o + k * 2 + 1, none⟩) hb).trans hc2
        dsimp only at hc1' hc2'
        obtain ⟨S, hSd⟩ : ∃ S, S = mkS d := ⟨_, rfl⟩
        have hSe : S.toList.isEmpty = decide (d = []) := by
          rw [hSd, Lib.toList_data, data_mkS]
          cases d <;> simp
        have hSz : S.size = d.length := by rw [hSd, size_mkS]
        rw [← hSd] at hc2'
        have hbs := hbr.size
        have hprev : Keep (0 < k → ∃ P : ByteArray, P.toList.isEmpty = decide (d ≠ []) ∧ wr.cell? ⟨b, o + (k - 1) * 2 + 1, none⟩ = some (.string P)) := ⟨fun h0 => by
          obtain ⟨⟨n', d'⟩, hy⟩ : ∃ y, x[k - 1]? = some y := ⟨_, List.getElem?_eq_getElem (by omega)⟩
          obtain ⟨b', o', e, _, _, hc⟩ := H3.out (k - 1) _ hy
          simp only [Option.some.injEq, Addr.mk.injEq] at e
          obtain ⟨rfl, rfl, _⟩ := e
          have hadj := (good_next hg.out (k - 1) _ _ hy (by rw [show k - 1 + 1 = k by omega]; exact hx)).1
          refine ⟨mkS d', ?_, (hbr.cell (p := ⟨b, o + (k - 1) * 2 + 1, none⟩) hb).trans hc⟩
          dsimp only at hadj
          rw [Lib.toList_data, data_mkS, Bool.eq_iff_iff]
          simpa using hadj⟩
        clear hc1 hc2
        by_cases hd : d = []
        · have hn : (32 : Int) ≤ n := hok.1 hd
          have hn' : decide (n < 32) = false := by simp; omega
          rw [decide_eq_true hd] at hSe
          rw [decide_eq_false (fun h => h hd)] at hprev
          clear hok hd hSz hSd
          have hx' := Keep.mk hx
          have hfin : Below w2.heap.size w2 (wr.alloc (.cells #[.int .i64 n, .string S] 45)) := hbr.alloc hbs _
          clear hx
          by_cases h0 : 0 < k
          · obtain ⟨P, hP, hcP⟩ := hprev.out h0
            have hcQ : (wr.alloc (.cells #[.int .i64 n, .string S] 45)).cell? ⟨b, o + (k - 1) * 2 + 1, none⟩ = some (.string P) := (World.cell?_alloc_lt wr _ _ (by simp; omega)).trans hcP
            go_wp2
            go_quiet (fail)
            go_wp2
            go_roundw
            case rel => exact ⟨k + 1, by omega, by go_num, below_drewN hfin _⟩
            case measure => simp [intOf]; omega
          · go_wp2
            go_quiet (fail)
            go_wp2
            go_roundw
            case rel => exact ⟨k + 1, by omega, by go_num, below_drewN hfin _⟩
            case measure => simp [intOf]; omega
        · obtain ⟨hn0, hrun⟩ := hok.2 hd
          dsimp only at hn0 hrun
          subst hn0
          rw [decide_eq_false hd] at hSe
          rw [decide_eq_true hd] at hprev
          have hlenS : S.size ≤ 2000 := by
            have h4 := seg_len hx
            rw [hexp.out, data_len'] at h4
            dsimp only at h4
            omega
          have hS0 : 0 < S.size := by
            have := List.length_pos_iff.2 hd
            omega
          have hfirst : Keep (0 < k → (((S[0]'hS0).toNat : Int) == 0) = false) := ⟨fun h0 => by
            obtain ⟨y, hy⟩ : ∃ y, x[k - 1]? = some y := ⟨_, List.getElem?_eq_getElem (by omega)⟩
            have hadj := (good_next hg.out (k - 1) _ _ hy (by rw [show k - 1 + 1 = k by omega]; exact hx)).2.2 hd
            rw [byte_zero, decide_eq_false_iff_not]
            intro e
            apply hadj
            dsimp only
            rw [List.head?_eq_getElem?, byte_at hSd 0 hS0, e]⟩
          have hlast : Keep (k + 1 < x.length → (((S[S.size - 1]'(Nat.sub_lt hS0 Nat.one_pos)).toNat : Int) == 0) = false) := ⟨fun h1 => by
            obtain ⟨y, hy⟩ : ∃ y, x[k + 1]? = some y := ⟨_, List.getElem?_eq_getElem h1⟩
            have hadj := (good_next hg.out k _ _ hx hy).2.1 hd
            rw [byte_zero, decide_eq_false_iff_not]
            intro e
            apply hadj
            dsimp only
            rw [List.getLast?_eq_getElem?, ← hSz, byte_at hSd (S.size - 1) (by omega), e]⟩
          have HR := Keep.mk (p := NoRun 32 S.data.toList) (by rw [hSd, data_mkS]; exact hrun)
          have hrep := Keep.mk (fun (wx : World) => repeat_any ⟨#[0]⟩ 32 wx (by decide) (by decide) (by decide))
          have hrv : mkS (Lib.repeatL (⟨#[0]⟩ : ByteArray).data.toList (32 : Int).toNat) = mkS (List.replicate 32 0) := by rw [repeatL_zero]; rfl
          rw [hrv] at hrep
          have hx' := Keep.mk hx
          clear hok hd hSz hSd hrun hrv hx
          go_wp2_with fail
          obtain ⟨wa, hwa⟩ : ∃ wa, wa = wr.alloc (.cells #[.int .i64 0, .string S] 45) := ⟨_, rfl⟩
          have ha0 : wa.cell? ⟨wr.heap.size, 0, none⟩ = some (.int .i64 0) := by rw [hwa, World.cell?]; simp only [World.alloc_heap_new]; rfl
          have ha1 : wa.cell? ⟨wr.heap.size, 1, none⟩ = some (.string S) := by rw [hwa, World.cell?]; simp only [World.alloc_heap_new]; rfl
          have haz : wr.heap.size + 1 = wa.heap.size := by rw [hwa]; simp
          have hfa : Below w2.heap.size w2 wa := by rw [hwa]; exact hbr.alloc hbs _
          have hma : MaxAt wa m := HM.out.below hfa
          have HB := Keep.mk hfa
          have hwo : ∀ q, wa.cell? ⟨b, q, none⟩ = wr.cell? ⟨b, q, none⟩ := fun q => by rw [hwa]; exact World.cell?_alloc_lt wr _ _ (by simp; omega)
          rw [← hwa]
          clear hwa
          obtain ⟨α, f, hne, hS, hcl⟩ := class_of (fun w' => (w'.cell? ⟨wr.heap.size, 0, none⟩ = some (.int .i64 0) ∧ w'.cell? ⟨wr.heap.size, 1, none⟩ = some (.string S)) ∧ Below wa.heap.size wa w') wa ⟨⟨ha0, ha1⟩, Below.refl _ _⟩
          have f0 := fun x => (hS x).1.1
          have f1 := fun x => (hS x).1.2
          have HS := Keep.mk hS
          clear hS
          refine wp_region_class f (by kernel_rfl) (by kernel_rfl) (hcl _ ⟨⟨ha0, ha1⟩, (Below.refl _ _).drew⟩) ?_
          repeat (go_big_quiet_step ((first
            | (go_at_call 26; refine (hrep.out _).mono ?_; rintro e w4 ⟨rfl, hb4⟩; exact ⟨rfl, hcl _ (held_two haz hb4 (HS.out _))⟩)
            | (go_at_call 25; refine (contains_any S 32 m _ (by omega) (hma.below (HS.out _).2) (by decide) HR.out).mono ?_; rintro e w5 ⟨rfl, rfl⟩; exact ⟨rfl, _, rfl⟩))))
          refine wpQuiet_nil ?_
          rintro _ ⟨y, rfl⟩
          obtain ⟨⟨g0, g1⟩, hby⟩ := HS.out y
          have hfin : Below w2.heap.size w2 (f y) := HB.out.trans (hby.mono HB.out.size)
          have hbw : wr.heap.size ≤ wa.heap.size := by omega
          generalize f y = w5 at *
          have old := fun (q : Nat) => hby.cell (p := ⟨b, q, none⟩) (by simp; omega)
          clear hcl f0 f1 HS hne hby hma hfa ha0 ha1
          by_cases h0 : 0 < k
          · obtain ⟨P, hP, hcP⟩ := hprev.out h0
            have hcQ : w5.cell? ⟨b, o + (k - 1) * 2 + 1, none⟩ = some (.string P) := (old _).trans ((hwo _).trans hcP)
            have hf0 := hfirst.out h0
            clear old hcP
            by_cases h1 : k + 1 < x.length
            · have hl0 := hlast.out h1
              have h1' : (k : Int) < (x.length : Int) - 1 := by omega
              go_wp2
              go_roundw
              case rel => exact ⟨k + 1, by omega, by go_num, hfin⟩
              case measure => simp [intOf]; omega
            · have h1' : ¬ (k : Int) < (x.length : Int) - 1 := by omega
              go_wp2
              go_roundw
              case rel => exact ⟨k + 1, by omega, by go_num, hfin⟩
              case measure => simp [intOf]; omega
          · clear old
            by_cases h1 : k + 1 < x.length
            · have hl0 := hlast.out h1
              have h1' : (k : Int) < (x.length : Int) - 1 := by omega
              go_wp2
              go_roundw
              case rel => exact ⟨k + 1, by omega, by go_num, hfin⟩
              case measure => simp [intOf]; omega
            · have h1' : ¬ (k : Int) < (x.length : Int) - 1 := by omega
              go_wp2
              go_roundw
              case rel => exact ⟨k + 1, by omega, by go_num, hfin⟩
              case measure => simp [intOf]; omega
      · go_wp2_with fail
        refine (awake_any _).mono ?_
        rintro e w2 ⟨rfl, hb2⟩
        go_wp2
        go_ret
        exact ⟨rfl, held_on (held_on hb2 hbr) hB2'.out⟩
theorem SparseCanonical_walk : LawWalkS 9 Try.f9 := by
  intro H enc W base args ds ps hval hA hsz hsh
  rw [Try.params9] at hA hval hsz
  obtain ⟨v0, vs0, d0, ds0, p0, q0, hargs, rfl, rfl, h0, r0⟩ := trodAll_cons hA
  obtain ⟨rfl, rfl, rfl⟩ := trodAll_nil r0
  obtain rfl : args = #[v0] := by cases args; simp_all
  obtain ⟨l, hl⟩ := open_parts (hval 0 22 v0 rfl rfl) h0 (sized_each hsz (j := 0) rfl rfl)
  obtain ⟨m, hm⟩ := maxAt_of hsh
  exact sparseCanonical_any v0 l m W hl hm
end Go.Proofs.Ytgoipkilpmjecaa
namespace Go.Proofs.Ytgoipkilpmjecaa
open Go.ChangeShapes Go.WideShapes Go.ChangeAt Go.RowKit
set_option maxRecDepth 100000 in
theorem SparseCanonical_lifted (os : Os) (started : os.Started) (H : Type) (enc : TypeId × Value → H) :
    ReturnsInHanded {} Try.checked os 9 .any (Rows.sparseCanonicalSpec.pre6 enc Try.prog Try.f9 Rows.sparseCanonicalRow.domain false) (Rows.sparseCanonicalSpec.post enc Try.prog Try.f9 false true false false) := by
  refine returnsInHanded_of_change_shaped (C := Try.checked) own started (by kernel_rfl) Try.func9
    (ChangeSpec.witness6 (enc := enc) (C := Try.checked) false ⟨#[], #[.slice none 0 0], []⟩ 8 (by kernel_rfl) (by kernel_rfl) (by kernel_rfl) (by kernel_rfl)) ?_
  exact law_contract_shaped (by kernel_rfl) (by kernel_rfl) ⟨rfl, fun H ds h => by rw [Try.params9] at h; match ds, h with | [d0], _ => rfl⟩ SparseCanonical_walk
theorem SparseCanonical_over : Rows.sparseCanonicalRow.holds Try.pinned (OpenSpec.ofChange Rows.sparseCanonicalSpec) :=
  OpenClaim.holds_of_wide 9 Try.f9 rfl rfl rfl rfl rfl rfl rfl ⟨rfl, rfl, rfl, rfl, rfl⟩ rfl rfl rfl rfl rfl (by kernel_rfl) Try.func9 (by kernel_rfl)
    (of_decide_eq_true (by kernel_rfl)) (by unfold Func.isWrapper; first | (rw [if_pos (by decide +kernel)]; kernel_rfl) | (rw [if_neg (by decide +kernel)]; exact ⟨rfl, rfl⟩))
    (fun os started H enc _ => SparseCanonical_lifted os started H enc)
theorem SparseCanonical_proved : Rows.SparseCanonicalSaid := SparseCanonical_over
end Go.Proofs.Ytgoipkilpmjecaa
