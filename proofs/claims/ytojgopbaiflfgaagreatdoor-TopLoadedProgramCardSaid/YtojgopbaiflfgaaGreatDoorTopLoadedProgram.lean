/- The law TopLoadedProgram, its row and its tied card: a program that is stored on strips is loaded and run from any copies of them, and missing pieces are named. Condition: the package variables that the row lists read as listed. -/
import Derived.Test.YtojgopbaiflfgaaGreatDoorTopLoaded
import Derived.Test.YtojgopbaiflfgaaGreatDoorOpenSlice
import Derived.Test.YtojgopbaiflfgaaGreatDoorTie
import Derived.Test.YtojgopbaiflfgaaGreatDoorCards
import Derived.ProofKit
import Derived.OpenShut
import Derived.LaidMore
import Derived.Lay
import Derived.MakeChecks
import Derived.Lib.LaidTab
import Derived.Stop.LaidErr
import Derived.SevenTiedAt
import Derived.Stop.Joined
namespace Go.Proofs.YtojgopbaiflfgaaGreatDoor
set_option maxRecDepth 100000
open Go.RowKit Go.Shelf Go.ChangeShapes Go.WideShapes Go.ChangeAt
open Go.ChangeMaps (open_string shut_string)

abbrev topLaid : List (String × DataW Unit) := [("math/bits.deBruijn32tab", Rows.laid_math_bits_deBruijn32tab), ("math/bits.deBruijn64tab", Rows.laid_math_bits_deBruijn64tab), ("internal/strconv.uint64pow10", Rows.laid_internal_strconv_uint64pow10), ("unicode/utf8.acceptRanges", Rows.laid_unicode_utf8_acceptRanges), ("strconv.ErrRange", Rows.laid_strconv_ErrRange), ("strconv.ErrSyntax", Rows.laid_strconv_ErrSyntax), ("unicode/utf8.first", Rows.laid_unicode_utf8_first)]
theorem laid_pow : (Rows.laid_internal_strconv_uint64pow10 : DataW Unit) = Lib.tabData .u64 Lib.pow10Tab := by kernel_rfl
theorem tab_of_laid {W : World} (h : laidMetH Tryz.prog topLaid W) : Tab W := by
  rw [MakeChecks.laidMetH_plain _ _ _ (by kernel_rfl)] at h
  have h3 := (h.tail).tail
  rw [laid_pow] at h3
  exact Lib.tabIs_of_head (g := 1) (t := 150) (e := 88) (n := 20) (by kernel_rfl) (by kernel_rfl) Tryz.underlying150 Tryz.underlying88 (by kernel_rfl) (by kernel_rfl) h3
theorem open_nums {H : Type} {enc : TypeId × Value → H} {W : World} {t e : TypeId} {k : IntKind} {v : Value} {d : DataW H} {ps : List MemPlace} {r : Reach} {b0 : Nat} (ht : Tryz.prog.underlying t = some (.slice e)) (he : Tryz.prog.underlying e = some (.int k)) (hc : Tryz.prog.cellsOf e = 1) (hk : k = .u16 ∨ k = .u8)
    (hval : Value.okWide Tryz.prog W r b0 t v) (hd : DataW.Trod enc Tryz.prog W 0 (fun _ => true) true t v d ps) : ∃ n, NumsIn W k v n := by
  obtain ⟨a, n, cap, D, sp, rfl, h1, h2, h3, h4⟩ := open_slice_cells ht hc (by omega) hval hd
  refine ⟨n, a, cap, rfl, h1, h2, ?_⟩
  by_cases hn : n = 0
  · exact .inl hn
  · obtain ⟨b, o, _, _, _, rfl, hlt, _, _, _⟩ := h4 0 (by omega)
    refine .inr ⟨b, o, rfl, hlt, fun i hi => ?_⟩
    obtain ⟨b', o', cs, fuel, pl, hbo, _, hlen, hget, htr⟩ := h4 i hi
    simp only [Option.some.injEq, Addr.mk.injEq] at hbo
    obtain ⟨rfl, rfl, _⟩ := hbo
    obtain ⟨z, rfl, _, hw⟩ := DataW.trod_int he htr
    have hz : 0 ≤ z ∧ z < 65536 := by
      rcases hk with rfl | rfl <;> (simp only [Lit.wf, IntKind.min, IntKind.max, IntKind.signed, IntKind.bits] at hw; simp at hw; omega)
    obtain ⟨c, rfl⟩ := Int.eq_ofNat_of_zero_le hz.1
    have := hget 0 (by omega)
    rw [Nat.mul_one, Nat.add_zero] at this
    exact ⟨c, by omega, this⟩
/-- The law's contract out of its premises. -/
theorem topLoaded_contract {H : Type} {enc : TypeId × Value → H} (W : World) (base : Nat) (args : Array Value) (ds : List (DataW H)) (ps : List MemPlace)
    (hval : ∀ (j : Nat) t v, Tryz.f3.params[j]? = some t → args[j]? = some v → Value.okWide Tryz.prog W .any base t v)
    (hA : DataW.TrodAll enc Tryz.prog W 0 (fun _ => true) true Tryz.f3.params.toList args.toList ds ps) (hT : Tab W) :
    Calls Tryz.prog 3 args W fun e W' => e = .returned (.bool true) ∧ Below W.heap.size W W' := by
  rw [Tryz.params3] at hA hval
  obtain ⟨v0, vs0, d0, ds0, p0, q0, hargs, rfl, rfl, h0, r0⟩ := trodAll_cons hA
  obtain ⟨v1, vs1, d1, ds1, p1, q1, rfl, rfl, rfl, h1, r1⟩ := trodAll_cons r0
  obtain ⟨v2, vs2, d2, ds2, p2, q2, rfl, rfl, rfl, h2, r2⟩ := trodAll_cons r1
  obtain ⟨rfl, rfl, rfl⟩ := trodAll_nil r2
  obtain rfl : args = #[v0, v1, v2] := by cases args; simp_all
  obtain ⟨s, rfl, rfl, rfl, ws⟩ := open_string Tryz.underlying9 (hval 0 9 v0 rfl rfl) h0
  obtain ⟨n, hn⟩ := open_nums (k := .u16) Tryz.underlying22 Tryz.underlying64 (by kernel_rfl) (.inl rfl) (hval 1 22 v1 rfl rfl) h1
  obtain ⟨m, hm⟩ := open_nums (k := .u8) Tryz.underlying23 Tryz.underlying5 (by kernel_rfl) (.inr rfl) (hval 2 23 v2 rfl rfl) h2
  exact topLoaded_any s v1 v2 n m (by simpa [maxLen] using ws) hT hn hm
theorem topLoaded_post {H : Type} {enc : TypeId × Value → H} (W : World) (base : Nat) (args : Array Value) (ds gs : List (DataW H)) (before : List MemPlace)
    (hval : ∀ (j : Nat) t v, Tryz.f3.params[j]? = some t → args[j]? = some v → Value.okWide Tryz.prog W .any base t v)
    (hW : DataW.Whole enc Tryz.prog Tryz.f3.params.toList Rows.topLoadedProgramSpec.vars false W args.toList ds gs before) (hT : Tab W) :
    Calls Tryz.prog 3 args W fun e W' => ∃ v, e = .returned v ∧ Rows.topLoadedProgramSpec.post enc Tryz.prog Tryz.f3 false true false false W args v W' := by
  have hs : IsLaw Rows.topLoadedProgramSpec 3 := ⟨rfl, fun H ds h => by match ds, h with | [d0, d1, d2], _ => rfl⟩
  have hr : Tryz.f3.resultTypes = #[4] := by kernel_rfl
  have hpb : (Tryz.f3.params.toList.all fun t => Tryz.prog.readableRec t && decide (t < Tryz.prog.types.size)) = true := by kernel_rfl
  have hp : ∀ t ∈ Tryz.f3.params.toList, Tryz.prog.readableRec t = true ∧ t < Tryz.prog.types.size := fun t ht => by
    have := List.all_eq_true.1 hpb t ht
    simp only [Bool.and_eq_true, decide_eq_true_eq] at this
    exact this
  have hW' := hW
  obtain ⟨p, q, hA, hV, rfl, hfz, hnd⟩ := hW
  rw [hs.vars] at hV
  obtain ⟨rfl, rfl⟩ := trodVars_none hV
  have hlen := (trodAll_length _ _ _ _ hA).2
  rw [Tryz.params3] at hlen
  have hlt : ∀ x ∈ p, x.block < W.heap.size := fun x hx => hW'.lt x (List.mem_append_left _ hx)
  refine (topLoaded_contract W base args ds p hval hA hT).mono fun e W' ⟨he, bel⟩ => ?_
  subst he
  have hsay := hs.says H ds hlen
  refine ⟨_, rfl, ds, [], _, [], p, [], hW', ?_, ?_, ?_, bel.frame _, fun h => by cases h⟩
  · rw [List.append_nil, hsay, hr]
    exact trodAll_mk1 (shut_bool Tryz.underlying4 _)
  · rw [List.append_nil, hsay]
    exact trodAll_below bel _ _ _ _ hp hlt hA
  · rw [List.append_nil, hsay, hs.vars]
    rfl
set_option maxRecDepth 100000 in
theorem TopLoadedProgram_lifted (os : Os) (started : os.Started) (H : Type) (enc : TypeId × Value → H) :
    ReturnsInHanded {} Tryz.checked os 3 .any (fun w args => (Rows.topLoadedProgramSpec.pre enc Tryz.prog Tryz.f3 Rows.topLoadedProgramRow.domain false w args ∧ laidMetH Tryz.prog topLaid w) ∧ sizedMet enc Tryz.prog Tryz.f3 (OpenSpec.ofChange Rows.topLoadedProgramSpec) false w args)
      (Rows.topLoadedProgramSpec.post enc Tryz.prog Tryz.f3 false true false false) := by
  refine returnsInHanded_of_change_and (C := Tryz.checked) (X := fun w _ => laidMetH Tryz.prog topLaid w) (fun _ _ _ hh h => h.of_heap hh) own started (by kernel_rfl) Tryz.func3
    (ChangeSpec.witness_shaped (enc := enc) (C := Tryz.checked) (os := os) (X := fun w _ => laidMetH Tryz.prog topLaid w) false (World.laidAll Tryz.prog os topLaid) #[.string ⟨#[]⟩, .slice none 0 0, .slice none 0 0] 8 (World.laidAll_os _ _ _)
      (World.shaped_of_ZipB (by kernel_rfl) (by kernel_rfl)) (by kernel_rfl) (by kernel_rfl) (by kernel_rfl)
      (by rw [MakeChecks.laidMetH_plain _ _ _ (by kernel_rfl)]; exact laidMet_laidAll _ (by kernel_rfl) (by kernel_rfl))) ?_
  intro W base args ds gs before hval hW _ _ hL _
  exact topLoaded_post W base args ds gs before hval hW (tab_of_laid hL)
theorem TopLoadedProgram_over : Rows.TopLoadedProgramSaid :=
  OpenClaim.holds_of_wide 3 Tryz.f3 rfl rfl rfl rfl rfl rfl rfl ⟨rfl, rfl, rfl, rfl, rfl⟩ rfl rfl rfl rfl rfl (by kernel_rfl) Tryz.func3 (by kernel_rfl)
    (of_decide_eq_true (by kernel_rfl)) (by unfold Func.isWrapper; first | (rw [if_pos (by decide +kernel)]; kernel_rfl) | (rw [if_neg (by decide +kernel)]; exact ⟨rfl, rfl⟩))
    (fun os started H enc _ => TopLoadedProgram_lifted os started H enc)
theorem TopLoadedProgram_proved : Rows.TopLoadedProgramCardSaid :=
  Claim7.holds_tied_plain_at .later [] [.data, .data, .data, .data, .sentinel, .sentinel, .pinned] true (true, "6850877905a59cabfbf94a6e88ca8f9c6c74b8aa90fae44e0bc74c66725bce2f") true
    TopLoadedProgram_over (fun _ h => by cases h) (by kernel_rfl) (fun _ h => by cases h) topLoadedProgram_row_tie rfl ⟨rfl, rfl⟩ (by kernel_rfl) rfl
    (fun f fn hf hfn => by
      obtain rfl : f = 3 := Option.some.inj ((show Tryz.prog.funcNamed "stele/steletop.TopLoadedProgram" = some 3 by kernel_rfl).symm.trans hf) |>.symm
      obtain rfl : fn = Tryz.f3 := (Option.some.inj (Tryz.func3.symm.trans hfn)).symm
      exact ⟨by kernel_rfl, fun j t ht => by
        rw [Tryz.params3] at ht
        have hm : t ∈ [9, 22, 23] := by simpa using Array.mem_of_getElem? ht
        have hall : ([9, 22, 23].all fun u => !Tryz.prog.wantsStandIn u) = true := by kernel_rfl
        exact (show Tryz.prog.wantsStandIn t = false by simpa using List.all_eq_true.1 hall t hm)⟩)
    (by kernel_rfl)
end Go.Proofs.YtojgopbaiflfgaaGreatDoor
