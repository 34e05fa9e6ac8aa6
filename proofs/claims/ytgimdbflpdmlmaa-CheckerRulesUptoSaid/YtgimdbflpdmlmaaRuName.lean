/- The reference's Name: as the program's isName. Condition: a string as long as strings can be. -/
import Derived.Test.YtgimdbflpdmlmaaRuScope
namespace Go.Proofs.Ytgimdbflpdmlmaa
set_option maxRecDepth 100000
open Go.RowKit Go.Shelf Go.Proofs.Ytgimdbflpdmlmaa.Ck

def refKw : List BA := [⟨#[97, 114, 114, 97, 121]⟩, ⟨#[101, 108, 115, 101]⟩, ⟨#[102, 117, 110, 99]⟩, ⟨#[104, 97, 108, 116]⟩, ⟨#[105, 102]⟩, sIn, sOut, ⟨#[114, 101, 116, 117, 114, 110]⟩, ⟨#[118, 97, 114]⟩, ⟨#[119, 104, 105, 108, 101]⟩]
theorem refKw_mem (s : BA) : s ∈ refKw ↔ s = sIn ∨ s = sOut ∨ s ∈ keywords := by
  simp only [refKw, keywords, List.mem_cons, List.not_mem_nil, or_false]
  constructor
  · rintro (h | h | h | h | h | h | h | h | h | h) <;> simp [h]
  · rintro (h | h | h | h | h | h | h | h | h | h) <;> simp [h]
theorem name_says (s : BA) : isName s = true ↔ s ∉ refKw ∧ s.size ≤ 24 ∧ wordly s.data.toList = true := by
  unfold isName
  simp only [Bool.and_eq_true, decide_eq_true_iff, Bool.not_eq_true', decide_eq_false_iff_not, refKw_mem, not_or]
  constructor
  · rintro ⟨⟨⟨⟨a, b⟩, c⟩, d⟩, e⟩; exact ⟨⟨b, c, d⟩, a, e⟩
  · rintro ⟨⟨b, c, d⟩, a, e⟩; exact ⟨⟨⟨⟨a, b⟩, c⟩, d⟩, e⟩
theorem letter_iff (b : UInt8) : letter b = true ↔ 97 ≤ b.toNat ∧ b.toNat ≤ 122 := by unfold letter; simp
theorem digit_iff (b : UInt8) : digit b = true ↔ 48 ≤ b.toNat ∧ b.toNat ≤ 57 := by unfold digit; simp
theorem fine_iff (i : Nat) (b : UInt8) : fine i b = true ↔ (97 ≤ b.toNat ∧ b.toNat ≤ 122) ∨ (i ≠ 0 ∧ (b.toNat = 95 ∨ (48 ≤ b.toNat ∧ b.toNat ≤ 57))) := by
  unfold fine
  simp only [Bool.or_eq_true, Bool.and_eq_true, decide_eq_true_iff, letter_iff, digit_iff]
set_option maxHeartbeats 8000000 in
theorem rname_any (s : ByteArray) (w : World) (hs : s.size ≤ maxLen) : Calls Try.prog 48 #[.string s] w fun e w' => e = .returned (.int .i64 (if isName s = true then 1 else 0)) ∧ Below w.heap.size w w' := by
  unfold maxLen at hs
  obtain ⟨q, hq⟩ : ∃ q : Int, q = if isName s = true then 1 else 0 := ⟨_, rfl⟩
  rw [← hq]
  have NO : Keep (¬ (s ∉ refKw ∧ s.size ≤ 24 ∧ wordly s.data.toList = true) → q = 0) := ⟨fun h => by rw [hq, if_neg (fun h' => h ((name_says s).1 h'))]⟩
  have YES : Keep (s ∉ refKw → s.size ≤ 24 → wordly s.data.toList = true → q = 1) := ⟨fun h1 h2 h3 => by rw [hq, if_pos ((name_says s).2 ⟨h1, h2, h3⟩)]⟩
  clear hq
  go_enter Try.func48, Try.ntmps48
  have hm : Strs (w.alloc (.cells (strCells refKw).toArray 9)) (.slice (some ⟨w.heap.size, 0, none⟩) 10 10) refKw := Strs.made w refKw 9 (by decide)
  have HM := Keep.mk hm
  have HB := Keep.mk (show Below w.heap.size w (w.alloc (.cells (strCells refKw).toArray 9)) from (Below.refl _ _).alloc (Nat.le_refl _) _)
  have hkw : (strCells refKw).toArray = #[.string ⟨#[97, 114, 114, 97, 121]⟩, .string ⟨#[101, 108, 115, 101]⟩, .string ⟨#[102, 117, 110, 99]⟩, .string ⟨#[104, 97, 108, 116]⟩, .string ⟨#[105, 102]⟩, .string ⟨#[105, 110]⟩, .string ⟨#[111, 117, 116]⟩, .string ⟨#[114, 101, 116, 117, 114, 110]⟩, .string ⟨#[118, 97, 114]⟩, .string ⟨#[119, 104, 105, 108, 101]⟩] := rfl
  rw [hkw] at HM HB
  clear hm hkw
  have hlen : refKw.length = 10 := rfl
  have HLEN := Keep.mk hlen
  clear hlen
  go_wp2_with fail
  generalize (w.alloc (.cells #[.string ⟨#[97, 114, 114, 97, 121]⟩, .string ⟨#[101, 108, 115, 101]⟩, .string ⟨#[102, 117, 110, 99]⟩, .string ⟨#[104, 97, 108, 116]⟩, .string ⟨#[105, 102]⟩, .string ⟨#[105, 110]⟩, .string ⟨#[111, 117, 116]⟩, .string ⟨#[114, 101, 116, 117, 114, 110]⟩, .string ⟨#[118, 97, 114]⟩, .string ⟨#[119, 104, 105, 108, 101]⟩] 9)) = w1 at *
  go_loop [8] (fun i => ∃ k : Nat, k ≤ 10 ∧ i = .int .i64 k ∧ Keep (∀ j x, j < k → refKw[j]? = some x → s ≠ x)) (fun i => 10 - (intOf i).toNat)
  case atStart => exact ⟨0, Nat.zero_le _, rfl, ⟨fun j x h => absurd h (Nat.not_lt_zero j)⟩⟩
  case round =>
    obtain ⟨k, hk, rfl, HNo⟩ := hrel
    by_cases hlt : k < 10
    · have k0 : (0 : Int) ≤ k := by omega
      have k1' : (k : Int) < 10 := by omega
      obtain ⟨x, hxk⟩ : ∃ x, refKw[k]? = some x := ⟨_, List.getElem?_eq_getElem (by rw [HLEN.out]; exact hlt)⟩
      obtain ⟨b, o, cap', hv, hb, hc0⟩ := HM.out.get hxk
      simp only [Value.slice.injEq, Option.some.injEq, Addr.mk.injEq] at hv
      obtain ⟨⟨rfl, rfl, _⟩, hv1, hv2⟩ := hv
      clear hv1 hv2
      have HX := Keep.mk hxk
      rw [Nat.zero_add] at hc0
      clear hxk
      by_cases hxs : s = x
      · have q1 : (s.toList == x.toList) = true := by rw [toList_beq, decide_eq_true hxs]
        have HE := Keep.mk (NO.out (fun h => h.1 (by rw [hxs]; exact List.mem_of_getElem? HX.out)))
        clear hxs
        go_wp2_with fail
        go_ret
        exact ⟨by rw [HE.out]; rfl, HB.out⟩
      · have q1 : (s.toList == x.toList) = false := by rw [toList_beq, decide_eq_false hxs]
        have HN := Keep.mk hxs
        clear hxs
        go_wp2_with fail
        go_round
        case rel => exact ⟨k + 1, by omega, by go_num, ⟨fun j y hj hy => by
          by_cases hjk : j < k
          · exact HNo.out j y hjk hy
          · obtain rfl : j = k := by omega
            rw [HX.out] at hy
            cases hy
            exact HN.out⟩⟩
        case measure => simp [intOf]; omega
    · obtain rfl : k = 10 := by omega
      have HNK : Keep (s ∉ refKw) := ⟨fun hm => by
        obtain ⟨j, hj⟩ := List.getElem?_of_mem hm
        exact HNo.out j s (by have := (List.getElem?_eq_some_iff.1 hj).1; rwa [HLEN.out] at this) hj rfl⟩
      clear HNo hlt hk
      by_cases h0 : s.size = 0
      · have e0 : ((s.size : Int) == 0) = true := by rw [beq_iff_eq]; omega
        have HE := Keep.mk (NO.out (fun h => by have h3 := h.2.2; rw [List.eq_nil_of_length_eq_zero (show s.data.toList.length = 0 by simpa using h0)] at h3; simp [wordly] at h3))
        clear h0
        go_wp2_with fail
        go_ret
        exact ⟨by rw [HE.out]; rfl, HB.out⟩
      have e0 : ((s.size : Int) == 0) = false := by rw [beq_eq_false_iff_ne]; omega
      have e00 : ¬ (s.size : Int) = 0 := by omega
      by_cases h1 : 24 < s.size
      · have e1 : (24 : Int) < (s.size : Int) := by omega
        have HE := Keep.mk (NO.out (fun h => by have := h.2.1; omega))
        clear h0 h1
        go_wp2_with fail
        go_ret
        exact ⟨by rw [HE.out]; rfl, HB.out⟩
      have e1 : ¬ (24 : Int) < (s.size : Int) := by omega
      have hp : 0 < s.size := by omega
      have hp' : (0 : Int) < (s.size : Int) := by omega
      have hg0 : s.data.toList[0]? = some s[0] := by
        rw [List.getElem?_eq_getElem (by simpa using hp)]; rfl
      have BAD : Keep (∀ j b, s.data.toList[j]? = some b → fine j b = false → q = 0) := ⟨fun j b hj hf => NO.out (fun h => by
        have := ((wordly_iff _).1 h.2.2).2 j b hj
        rw [hf] at this
        cases this)⟩
      by_cases g1 : s[0].toNat < 97
      · have f1 : (s[0].toNat : Int) < 97 := by omega
        have HE := Keep.mk (BAD.out 0 _ hg0 (by rw [Bool.eq_false_iff, ne_eq, fine_iff]; omega))
        clear h0 h1 g1 hg0
        go_wp2_with fail
        go_ret
        exact ⟨by rw [HE.out]; rfl, HB.out⟩
      have f1 : ¬ (s[0].toNat : Int) < 97 := by omega
      by_cases g2 : 122 < s[0].toNat
      · have f2 : (122 : Int) < (s[0].toNat : Int) := by omega
        have HE := Keep.mk (BAD.out 0 _ hg0 (by rw [Bool.eq_false_iff, ne_eq, fine_iff]; omega))
        clear h0 h1 g1 g2 hg0
        go_wp2_with fail
        go_ret
        exact ⟨by rw [HE.out]; rfl, HB.out⟩
      have f2 : ¬ (122 : Int) < (s[0].toNat : Int) := by omega
      have HF0 : Keep (∀ j b, j < 1 → s.data.toList[j]? = some b → fine j b = true) := ⟨fun j b hj hb => by
        obtain rfl : j = 0 := by omega
        rw [hg0] at hb
        cases hb
        rw [fine_iff]
        omega⟩
      have HP := Keep.mk (And.intro hp (show s.size ≤ 24 by omega))
      clear h0 h1 g1 g2 hg0
      go_wp2_with fail
      clear e0 e00 e1 hp' f1 f2
      go_loop [5] (fun i => ∃ k : Nat, 1 ≤ k ∧ k ≤ s.size ∧ i = .int .i64 k ∧ Keep (∀ j b, j < k → s.data.toList[j]? = some b → fine j b = true)) (fun i => s.size - (intOf i).toNat)
      case atStart => exact ⟨1, Nat.le_refl _, HP.out.1, rfl, HF0⟩
      case round =>
        obtain ⟨k, hk1, hk, rfl, HF⟩ := hrel
        clear HF0
        by_cases hlt : k < s.size
        · have hgk : s.data.toList[k]? = some s[k] := by
            rw [List.getElem?_eq_getElem (by simpa using hlt)]; rfl
          have STEP : Keep (fine k s[k] = true → ∀ j b, j < k + 1 → s.data.toList[j]? = some b → fine j b = true) := ⟨fun hf j b hj hb => by
            by_cases h : j < k
            · exact HF.out j b h hb
            · obtain rfl : j = k := by omega
              rw [hgk] at hb
              cases hb
              exact hf⟩
          have FAIL : Keep (fine k s[k] = false → q = 0) := ⟨fun hf => BAD.out k _ hgk hf⟩
          have k0 : (0 : Int) ≤ (k : Int) := by omega
          have k1 : (k : Int) < (s.size : Int) := by omega
          clear hgk
          by_cases g1 : 97 ≤ s[k].toNat ∧ s[k].toNat ≤ 122
          · have f1 : ¬ (s[k].toNat : Int) < 97 := by omega
            have f2 : ¬ (122 : Int) < (s[k].toNat : Int) := by omega
            have HF1 := Keep.mk (STEP.out (by rw [fine_iff]; omega))
            clear g1
            go_wp2_with fail
            go_round
            case rel => exact ⟨k + 1, by omega, by omega, by go_num, HF1⟩
            case measure => simp [intOf]; omega
          by_cases g2 : 48 ≤ s[k].toNat ∧ s[k].toNat ≤ 57
          · have f1 : (s[k].toNat : Int) < 97 := by omega
            have f3 : ¬ (s[k].toNat : Int) < 48 := by omega
            have f4 : ¬ (57 : Int) < (s[k].toNat : Int) := by omega
            have HF1 := Keep.mk (STEP.out (by rw [fine_iff]; omega))
            clear g1 g2
            go_wp2_with fail
            go_round
            case rel => exact ⟨k + 1, by omega, by omega, by go_num, HF1⟩
            case measure => simp [intOf]; omega
          by_cases g3 : s[k].toNat = 95
          · have f1 : (s[k].toNat : Int) < 97 := by omega
            have f3 : ¬ (s[k].toNat : Int) < 48 := by omega
            have f4 : (57 : Int) < (s[k].toNat : Int) := by omega
            have f5 : ((s[k].toNat : Int) != 95) = false := by rw [g3]; rfl
            have HF1 := Keep.mk (STEP.out (by rw [fine_iff]; omega))
            clear g1 g2 g3
            go_wp2_with fail
            go_round
            case rel => exact ⟨k + 1, by omega, by omega, by go_num, HF1⟩
            case measure => simp [intOf]; omega
          have f5 : ((s[k].toNat : Int) != 95) = true := by simp; omega
          have HE := Keep.mk (FAIL.out (by rw [Bool.eq_false_iff, ne_eq, fine_iff]; omega))
          by_cases g4 : s[k].toNat < 97
          · have f1 : (s[k].toNat : Int) < 97 := by omega
            by_cases g5 : s[k].toNat < 48
            · have f3 : (s[k].toNat : Int) < 48 := by omega
              clear g1 g2 g3 g4 g5
              go_wp2_with fail
              go_ret
              exact ⟨by rw [HE.out]; rfl, HB.out⟩
            · have f3 : ¬ (s[k].toNat : Int) < 48 := by omega
              have f4 : (57 : Int) < (s[k].toNat : Int) := by omega
              clear g1 g2 g3 g4 g5
              go_wp2_with fail
              go_ret
              exact ⟨by rw [HE.out]; rfl, HB.out⟩
          · have f1 : ¬ (s[k].toNat : Int) < 97 := by omega
            have f2 : (122 : Int) < (s[k].toNat : Int) := by omega
            have f3 : ¬ (s[k].toNat : Int) < 48 := by omega
            have f4 : (57 : Int) < (s[k].toNat : Int) := by omega
            clear g1 g2 g3 g4
            go_wp2_with fail
            go_ret
            exact ⟨by rw [HE.out]; rfl, HB.out⟩
        · have hkn : k = s.size := by omega
          have HE := Keep.mk (YES.out HNK.out HP.out.2 ((wordly_iff _).2 ⟨fun h => by
            have h1 : s.data.toList.length = s.size := by simp
            rw [h] at h1
            have := HP.out.1
            simp at h1
            omega, fun j b hj => HF.out j b (by
              have h1 := (List.getElem?_eq_some_iff.1 hj).1
              have hl : s.data.toList.length = s.size := by simp
              omega) hj⟩))
          have k1 : ¬ (k : Int) < (s.size : Int) := by omega
          clear hkn hlt
          go_wp2_with fail
          go_ret
          exact ⟨by rw [HE.out]; rfl, HB.out⟩
end Go.Proofs.Ytgimdbflpdmlmaa
