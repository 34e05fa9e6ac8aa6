/- The checker's isName. No condition. -/
import Derived.Test.YtgimdbflpdmlmaaCkFormed
import Derived.Test.YtgimdbflpdmlmaaShelf
namespace Go.Proofs.Ytgimdbflpdmlmaa
set_option maxRecDepth 100000
open Go.RowKit Go.Shelf Go.Proofs.Ytgimdbflpdmlmaa.Ck

theorem kwCells : keywords.map Value.string = [.string ⟨#[97, 114, 114, 97, 121]⟩, .string ⟨#[101, 108, 115, 101]⟩, .string ⟨#[102, 117, 110, 99]⟩, .string ⟨#[104, 97, 108, 116]⟩, .string ⟨#[105, 102]⟩, .string ⟨#[114, 101, 116, 117, 114, 110]⟩, .string ⟨#[118, 97, 114]⟩, .string ⟨#[119, 104, 105, 108, 101]⟩] := rfl
/-- The keywords, a new list. -/
theorem keywords_any (w : World) : Calls Try.prog 77 #[] w fun e w' => e = .returned (.slice (some ⟨w.heap.size, 0, none⟩) 8 8) ∧ w' = w.alloc (.cells (keywords.map Value.string).toArray 9) := by
  go_enter Try.func77, Try.ntmps77
  go_wp2
  go_ret
  exact ⟨rfl, rfl⟩
theorem contains_kw (s : ByteArray) : Lib.containsS (keywords.take 8) s = decide (s ∈ keywords) := by
  rw [Bool.eq_iff_iff, Lib.containsS_iff, decide_eq_true_iff]
  exact Iff.rfl
theorem kw_call (s : ByteArray) {b : Nat} (w : World) (h : w.heap[b]? = some (.cells (keywords.map Value.string).toArray 9 (0, 0))) : Calls Try.prog 76 #[.slice (some ⟨b, 0, none⟩) 8 8, .string s] w fun e w' => e = .returned (.bool (decide (s ∈ keywords))) ∧ w' = w := by
  have := Try.slices_Contains_string b 0 8 8 keywords s w (by decide) (by decide) (fun j hj => by
    have hl : keywords.length = 8 := rfl
    rw [Nat.zero_add]
    simp only [World.cell?, h]
    simp [List.getElem?_map, List.getElem?_eq_getElem hj, List.getD_eq_getElem?_getD])
  rwa [contains_kw] at this
theorem size_nil {s : ByteArray} (h : s.data.toList = []) : s.size = 0 := by
  have hl : s.data.toList.length = s.size := by simp
  rw [h] at hl
  exact hl.symm
/-- The first k bytes are fine. -/
def fine (i : Nat) (b : UInt8) : Bool := letter b || (decide (i ≠ 0) && (decide (b.toNat = 95) || digit b))
theorem wordly_iff (l : List UInt8) : wordly l = true ↔ l ≠ [] ∧ ∀ i b, l[i]? = some b → fine i b = true := by
  cases l with
  | nil => simp [wordly]
  | cons x r =>
    simp only [wordly, Bool.and_eq_true, List.all_eq_true, ne_eq, List.cons_ne_nil, not_false_eq_true, true_and]
    constructor
    · rintro ⟨h1, h2⟩ i b hi
      cases i with
      | zero => simp at hi; subst hi; simp [fine, h1]
      | succ i =>
        have := h2 b (List.mem_of_getElem? (by simpa using hi))
        unfold fine
        simp only [Bool.or_eq_true] at this ⊢
        rcases this with (h | h) | h
        · exact .inl h
        · exact .inr (by simp at h; simp [h])
        · exact .inr (by simp [h])
    · intro h
      refine ⟨?_, fun b hb => ?_⟩
      · have := h 0 x rfl
        simpa [fine] using this
      · obtain ⟨i, hi⟩ := List.getElem?_of_mem hb
        have := h (i + 1) b (by simpa using hi)
        simp only [fine, Bool.or_eq_true, Bool.and_eq_true] at this ⊢
        rcases this with h | ⟨_, h | h⟩
        · exact .inl (.inl h)
        · exact .inl (.inr h)
        · exact .inr h
set_option maxHeartbeats 4000000 in
theorem isName_any (s : ByteArray) (w : World) (hs : s.size ≤ maxLen) : Calls Try.prog 64 #[.string s] w fun e w' => e = .returned (.bool (Ck.isName s)) ∧ Below w.heap.size w w' := by
  unfold maxLen at hs
  go_enter Try.func64, Try.ntmps64
  have HQ : Keep (Ck.isName s = (decide (s.size ≤ 24) && !decide (s = sIn) && !decide (s = sOut) && !decide (s ∈ keywords) && wordly s.data.toList)) := ⟨rfl⟩
  generalize hq : Ck.isName s = q at *
  clear hq
  have bad : ∀ {w' : World}, (s.size ≤ 24 → s ≠ sIn → s ≠ sOut → s ∉ keywords → wordly s.data.toList = true → False) → Below w.heap.size w w' → Ending.returned (.bool false) = .returned (.bool q) ∧ Below w.heap.size w w' := fun h hb => by
    refine ⟨?_, hb⟩
    rw [HQ.out]
    congr 2
    symm
    rw [Bool.eq_false_iff]
    intro h'
    simp only [Bool.and_eq_true, decide_eq_true_iff, Bool.not_eq_true', decide_eq_false_iff_not] at h'
    exact h h'.1.1.1.1 h'.1.1.1.2 h'.1.1.2 h'.1.2 h'.2
  have BAD := Keep.mk @bad
  clear bad
  by_cases h0 : s.size = 0
  · have e0 : s.toList.isEmpty = true := by rw [toList_mkS, List.isEmpty_iff]; exact List.eq_nil_of_length_eq_zero (by simpa using h0)
    have HE := Keep.mk e0
    clear h0
    go_wp2_with fail
    go_ret
    exact BAD.out (fun _ _ _ _ h => by have := HE.out; rw [toList_mkS, List.isEmpty_iff] at this; rw [this] at h; simp [wordly] at h) (Below.refl _ _)
  have e0 : s.toList.isEmpty = false := by rw [Bool.eq_false_iff, toList_mkS, ne_eq, List.isEmpty_iff]; exact fun h => h0 (size_nil h)
  by_cases h1 : 24 < s.size
  · have e1 : decide (24 < (s.size : Int)) = true := decide_eq_true (by omega)
    have HE := Keep.mk h1
    clear h0 h1
    go_wp2_with fail
    go_ret
    exact BAD.out (fun h _ _ _ _ => by have := HE.out; omega) (Below.refl _ _)
  have e1 : decide (24 < (s.size : Int)) = false := decide_eq_false (by omega)
  by_cases h2 : s = sIn
  · have e2 : (s.toList == [105, 110]) = true := by rw [eqs s (k := sIn) (by decide +kernel), decide_eq_true h2]
    have HE := Keep.mk h2
    clear h0 h1 h2
    go_wp2_with fail
    go_ret
    exact BAD.out (fun _ h _ _ _ => h HE.out) (Below.refl _ _)
  have e2 : (s.toList == [105, 110]) = false := by rw [eqs s (k := sIn) (by decide +kernel), decide_eq_false h2]
  by_cases h3 : s = sOut
  · have e3 : (s.toList == [111, 117, 116]) = true := by rw [eqs s (k := sOut) (by decide +kernel), decide_eq_true h3]
    have HE := Keep.mk h3
    clear h0 h1 h2 h3
    go_wp2_with fail
    go_ret
    exact BAD.out (fun _ _ h _ _ => h HE.out) (Below.refl _ _)
  have e3 : (s.toList == [111, 117, 116]) = false := by rw [eqs s (k := sOut) (by decide +kernel), decide_eq_false h3]
  have HN0 := Keep.mk h0
  have HN1 := Keep.mk h1
  have HN2 := Keep.mk h2
  have HN3 := Keep.mk h3
  clear h0 h1 h2 h3
  go_wp2_with fail
  refine (keywords_any w).mono ?_
  rintro _ w1 ⟨rfl, hw1⟩
  have hX : w1.heap[w.heap.size]? = some (.cells (keywords.map Value.string).toArray 9 (0, 0)) := by rw [hw1]; exact heap_alloc_new w _
  have HB := Keep.mk (show Below w.heap.size w w1 by rw [hw1]; exact (Below.refl _ _).alloc (Nat.le_refl _) _)
  have HX := Keep.mk hX
  clear hw1 hX
  by_cases h4 : s ∈ keywords
  · have HE := Keep.mk h4
    have h := kw_call s w1 HX.out
    rw [decide_eq_true h4] at h
    have HK := Keep.mk h
    clear h h4
    go_wp2_with fail
    refine HK.out.mono ?_
    rintro _ w2 ⟨rfl, rfl⟩
    go_wp2_with fail
    go_ret
    exact BAD.out (fun _ _ _ h _ => h HE.out) HB.out
  have h := kw_call s w1 HX.out
  rw [decide_eq_false h4] at h
  have HK := Keep.mk h
  have HN4 := Keep.mk h4
  clear h h4
  go_wp2_with fail
  refine HK.out.mono ?_
  rintro _ w2 ⟨rfl, rfl⟩
  go_wp2_with fail
  go_loop [27] (fun i => ∃ k : Nat, k ≤ s.size ∧ i = .int .i64 k ∧ Keep (∀ j b, j < k → s.data.toList[j]? = some b → fine j b = true)) (fun i => s.size - (intOf i).toNat)
  case atStart => exact ⟨0, Nat.zero_le _, rfl, ⟨fun j b h => absurd h (Nat.not_lt_zero j)⟩⟩
  case round =>
    obtain ⟨k, hk, rfl, HF⟩ := hrel
    by_cases hlt : k < s.size
    · have hgk : s.data.toList[k]? = some s[k] := by
        rw [List.getElem?_eq_getElem (by simpa using hlt)]; rfl
      have STEP : Keep (fine k s[k] = true → ∀ j b, j < k + 1 → s.data.toList[j]? = some b → fine j b = true) := ⟨fun hf j b hj hb => by
        by_cases h : j < k
        · exact HF.out j b h hb
        · obtain rfl : j = k := by omega
          rw [hgk] at hb
          cases hb
          exact hf⟩
      have FAIL : Keep (fine k s[k] = false → Ending.returned (.bool false) = .returned (.bool q) ∧ Below w.heap.size w w2) := ⟨fun hf => BAD.out (fun _ _ _ _ h => by have := ((wordly_iff _).1 h).2 k _ hgk; rw [hf] at this; cases this) HB.out⟩
      clear hgk
      by_cases g1 : 97 ≤ s[k].toNat ∧ s[k].toNat ≤ 122
      · have f1 : (97 : Int) ≤ (s[k].toNat : Int) := by omega
        have f2 : (s[k].toNat : Int) ≤ 122 := by omega
        have HF1 : Keep (fine k s[k] = true) := ⟨by simp [fine, letter, g1.1, g1.2]⟩
        clear g1
        go_wp2_with fail
        go_round
        case rel => exact ⟨k + 1, by omega, by go_num, ⟨STEP.out HF1.out⟩⟩
        case measure => simp [intOf]; omega
      have g1' : letter s[k] = false := by
        unfold letter
        rw [Bool.eq_false_iff]
        intro h
        simp only [Bool.and_eq_true, decide_eq_true_iff] at h
        exact g1 h
      have HL : Keep (fine k s[k] = (decide (k ≠ 0) && (decide (s[k].toNat = 95) || digit s[k]))) := ⟨by unfold fine; rw [g1']; rfl⟩
      have f12 : (decide ((97 : Int) ≤ (s[k].toNat : Int)) && decide ((s[k].toNat : Int) ≤ 122)) = false := by
        rw [Bool.eq_false_iff]
        intro h
        simp only [Bool.and_eq_true, decide_eq_true_iff] at h
        exact g1 (by omega)
      clear g1'
      by_cases g0 : k = 0
      · subst g0
        have HF1 : Keep (fine 0 s[0] = false) := ⟨by rw [HL.out]; rfl⟩
        rcases (show ¬ (97 : Int) ≤ (s[0].toNat : Int) ∨ ((97 : Int) ≤ (s[0].toNat : Int) ∧ ¬ (s[0].toNat : Int) ≤ 122) by omega) with f | ⟨f, f'⟩
        · clear g1 f12
          go_wp2_with fail
          go_ret
          exact FAIL.out HF1.out
        · clear g1 f12
          go_wp2_with fail
          go_ret
          exact FAIL.out HF1.out
      have f0 : ((k : Int) == 0) = false := by rw [beq_nat0]; exact decide_eq_false g0
      by_cases g2 : s[k].toNat = 95
      · have HF1 : Keep (fine k s[k] = true) := ⟨by rw [HL.out, g2]; simp [g0]⟩
        have f1 : ¬ (97 : Int) ≤ (s[k].toNat : Int) := by omega
        have f2 : ((s[k].toNat : Int) != 95) = false := by rw [g2]; rfl
        have f9 : (s[k].toNat : Int) = 95 := by rw [g2]; rfl
        clear g1 f12 g2 g0
        go_wp2_with fail
        go_round
        case rel => exact ⟨k + 1, by omega, by go_num, ⟨STEP.out HF1.out⟩⟩
        case measure => simp [intOf]; omega
      have f2 : ((s[k].toNat : Int) != 95) = true := by simp; omega
      have f9 : ¬ (s[k].toNat : Int) = 95 := by omega
      by_cases g3 : s[k].toNat < 48
      · have f3 : (s[k].toNat : Int) < 48 := by omega
        have HF1 : Keep (fine k s[k] = false) := ⟨by
          rw [HL.out]
          have : digit s[k] = false := by unfold digit; rw [decide_eq_false (by omega : ¬ 48 ≤ s[k].toNat)]; rfl
          rw [this, decide_eq_false g2]; simp⟩
        have f1 : ¬ (97 : Int) ≤ (s[k].toNat : Int) := by omega
        clear g1 f12 g2 g0 g3
        go_wp2_with fail
        go_ret
        exact FAIL.out HF1.out
      have f3 : ¬ (s[k].toNat : Int) < 48 := by omega
      by_cases g4 : 57 < s[k].toNat
      · have f4 : (57 : Int) < (s[k].toNat : Int) := by omega
        have HF1 : Keep (fine k s[k] = false) := ⟨by
          rw [HL.out]
          have : digit s[k] = false := by unfold digit; rw [decide_eq_false (by omega : ¬ s[k].toNat ≤ 57)]; simp
          rw [this, decide_eq_false g2]; simp⟩
        rcases (show ¬ (97 : Int) ≤ (s[k].toNat : Int) ∨ ((97 : Int) ≤ (s[k].toNat : Int) ∧ ¬ (s[k].toNat : Int) ≤ 122) by omega) with f | ⟨f, f'⟩
        · clear g1 f12 g2 g0 g3 g4
          go_wp2_with fail
          go_ret
          exact FAIL.out HF1.out
        · clear g1 f12 g2 g0 g3 g4
          go_wp2_with fail
          go_ret
          exact FAIL.out HF1.out
      have f4 : ¬ (57 : Int) < (s[k].toNat : Int) := by omega
      have f1 : ¬ (97 : Int) ≤ (s[k].toNat : Int) := by omega
      have HF1 : Keep (fine k s[k] = true) := ⟨by
        rw [HL.out]
        have : digit s[k] = true := by unfold digit; rw [decide_eq_true (by omega : 48 ≤ s[k].toNat), decide_eq_true (by omega : s[k].toNat ≤ 57)]; rfl
        rw [this]; simp [g0]⟩
      clear g1 f12 g2 g0 g3 g4
      go_wp2_with fail
      go_round
      case rel => exact ⟨k + 1, by omega, by go_num, ⟨STEP.out HF1.out⟩⟩
      case measure => simp [intOf]; omega
    · have hkn : k = s.size := by omega
      have HKN := Keep.mk hkn
      clear hkn
      go_wp2_with fail
      go_ret
      refine ⟨congrArg (fun b => Ending.returned (.bool b)) ?_, HB.out⟩
      rw [HQ.out]
      symm
      simp only [Bool.and_eq_true, decide_eq_true_iff, Bool.not_eq_true', decide_eq_false_iff_not]
      refine ⟨⟨⟨⟨by have := HN1.out; omega, HN2.out⟩, HN3.out⟩, HN4.out⟩, (wordly_iff _).2 ⟨fun h => HN0.out (size_nil h), fun j b hj => HF.out j b ?_ hj⟩⟩
      · have h1 := (List.getElem?_eq_some_iff.1 hj).1
        have hl : s.data.toList.length = s.size := by simp
        have := HKN.out
        omega
end Go.Proofs.Ytgimdbflpdmlmaa
