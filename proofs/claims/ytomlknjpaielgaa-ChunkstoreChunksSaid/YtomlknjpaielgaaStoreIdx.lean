/- The map of the store's digests. Condition: at most a million chunks. -/
import Derived.Test.YtomlknjpaielgaaStoreIndex
namespace Go.Proofs.Ytomlknjpaielgaa
set_option maxRecDepth 100000
open Go.RowKit Go.Shelf Go.Proofs.Ytomlknjpaielgaa.Store

set_option maxHeartbeats 4000000 in
theorem index_any {w : World} {v : Value} {l : List Chk} {ses : Int} {st : ByteArray} (h : Chks w v l) :
    Calls Try.prog 26 #[.agg #[v, .int .i64 ses, .string st]] w fun e w' => ∃ M, e = .returned (.map (some M)) ∧ w.heap.size ≤ M ∧ M < w'.heap.size ∧ DigMap w' M l ∧ Below w.heap.size w w' := by
  obtain ⟨a, cap, rfl, hc1, hc2, hp⟩ := h.parts
  have HP := Keep.mk hp
  clear h hp
  unfold maxLen at hc2
  have hmm := @run_makeMap Try.prog
  go_enter Try.func26, Try.ntmps26
  go_wp2_with fail
  clear hmm
  go_loopw [12] (fun i wr => ∃ k : Nat, k ≤ l.length ∧ i = .int .i64 k ∧ DigMap wr (w.heap.size + 1) (l.take k) ∧ w.heap.size + 1 < wr.heap.size ∧ Below w.heap.size w wr) (fun i _ => l.length - (intOf i).toNat)
  case atStart =>
    refine ⟨0, Nat.zero_le _, rfl, ⟨[], ?_, fun d => rfl⟩, by simp, ((Below.refl _ _).alloc (Nat.le_refl _) _).alloc (by simp) _⟩
    have := MapIs.made SK (w.alloc (.cells #[.slice a l.length cap, .int .i64 ses, .string st] 27))
    rwa [World.size_alloc] at this
  case round =>
    obtain ⟨k, hk, rfl, hM, hMl, hB⟩ := hrel
    have HM := Keep.mk (And.intro hM hB)
    clear hM hB
    by_cases hlt : k < l.length
    · obtain ⟨c, hc⟩ : ∃ c, l[k]? = some c := ⟨_, List.getElem?_eq_getElem hlt⟩
      obtain ⟨b, o, rfl, hb, c0, c1, c2, c3⟩ := HP.out k c hc
      have c0' := (HM.out.2.cell (p := ⟨b, o + k * 4, none⟩) hb).trans c0
      have c1' := (HM.out.2.cell (p := ⟨b, o + k * 4 + 1, none⟩) hb).trans c1
      have c2' := (HM.out.2.cell (p := ⟨b, o + k * 4 + 2, none⟩) hb).trans c2
      have c3' := (HM.out.2.cell (p := ⟨b, o + k * 4 + 3, none⟩) hb).trans c3
      obtain ⟨d, xs, xo, xn⟩ := c
      have hT : Keep (l.take (k + 1) = l.take k ++ [(d, xs, xo, xn)]) := ⟨by rw [List.take_add_one, hc]; rfl⟩
      have k0 : (0 : Int) ≤ k := by omega
      have k1 : (k : Int) < l.length := by omega
      clear c0 c1 c2 c3 hc
      go_upto_region 5 with (fail)
      have hA := HM.out.1
      obtain ⟨m, hm, hmd⟩ := hA
      have hlk := DigMap.lookup (w := wr.alloc (.cells #[.string d, .int .i64 xs, .int .i64 xo, .int .i64 xn] 44)) ⟨m, hm.alloc _, hmd⟩ d
      have HM2 := Keep.mk (And.intro hm hmd)
      clear hm hmd
      cases hf : find d (l.take k) with
      | some y =>
        obtain ⟨ys, yo, yn⟩ := y
        rw [hf] at hlk
        simp only [Option.map_some, Option.getD_some, Option.isSome_some, extA] at hlk
        have HF := Keep.mk hf
        clear hf
        go_wp2_with fail
        go_roundw
        case rel =>
          refine ⟨k + 1, by omega, by go_num, ⟨m, (HM2.out.1.alloc _).alloc _, fun d' => ?_⟩, by simp; omega, (HM.out.2.alloc (by omega) _).alloc (by simp; omega) _⟩
          rw [hT.out, find_old HF.out]
          exact HM2.out.2 d'
        case measure => simp [intOf]; omega
      | none =>
        rw [hf] at hlk
        simp only [Option.map_none, Option.getD_none, Option.isSome_none, extA] at hlk
        have HF := Keep.mk hf
        clear hf
        go_wp2_with (at_mapUpdate; refine wpList_store (K := SK) rfl _ _ _ _ rfl Try.underlying59 rfl ((HM2.out.1.alloc _).alloc _) d rfl ?_; intro w5 hM5 hg5; have H5 := Keep.mk (And.intro hM5 hg5); clear hM5 hg5)
        have hb5 : Below w.heap.size w w5 := ((HM.out.2.alloc (by omega) _).alloc (by simp; omega) _).grown H5.out.2 (by simp; omega) (fun k e => by cases e; omega)
        have hz5 := H5.out.2.size
        simp only [World.size_alloc] at hz5
        go_roundw
        case rel =>
          refine ⟨k + 1, by omega, by go_num, ⟨_, H5.out.1, fun d' => ?_⟩, by omega, hb5⟩
          rw [hT.out, find_new HF.out, look_put, HM2.out.2 d']
          split <;> rfl
        case measure => simp [intOf]; omega
    · have : k = l.length := by omega
      subst this
      rw [List.take_length] at HM
      go_wp2_with fail
      go_ret
      exact ⟨_, rfl, by omega, hMl, HM.out.1, HM.out.2⟩
end Go.Proofs.Ytomlknjpaielgaa
