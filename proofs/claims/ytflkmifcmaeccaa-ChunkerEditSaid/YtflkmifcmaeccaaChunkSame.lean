/- steleref33.Same says whether two lists of strings are equal. No condition. -/
import Derived.Test.YtflkmifcmaeccaaStrs
import Derived.Deep.QuietTactic
import Derived.BigQuiet
namespace Go.Proofs.Ytflkmifcmaeccaa
open Go.RowKit Go.Shelf

set_option maxHeartbeats 1000000 in
theorem same_any (u v : Value) (l m : List ByteArray) (w : World) (hu : Strs w u l) (hv : Strs w v m) :
    Calls Try.prog 12 #[u, v] w fun e w' => e = .returned (.bool (decide (l = m))) ∧ Below w.heap.size w w' := by
  by_cases hlen : l.length = m.length
  · by_cases hl : l = []
    · subst hl
      have : m = [] := List.eq_nil_of_length_eq_zero hlen.symm
      subst this
      obtain ⟨a, c, rfl, _⟩ := hu.nil_cases
      obtain ⟨a', c', rfl, _⟩ := hv.nil_cases
      clear hu hv hlen
      go_enter Try.func12, Try.ntmps12
      go_wp2
      refine wp_loop_rounds 1 ?_
      rw [rounds_succ]
      go_wp2
      go_ret
      exact ⟨rfl, Below.refl _ _⟩
    · obtain ⟨b, o, c, rfl, h1, h2, h3, h4⟩ := hu.cons_cases hl
      obtain ⟨b', o', c', rfl, h1', h2', h3', h4'⟩ := hv.cons_cases (fun e => hl (List.eq_nil_of_length_eq_zero (by rw [hlen, e]; rfl)))
      unfold maxLen at h2 h2'
      rw [← hlen]
      have HL := Keep.mk hlen
      clear hlen hu hv h1'
      go_enter Try.func12, Try.ntmps12
      go_wp2
      go_loopw [13] (fun i wr => ∃ k : Nat, k ≤ l.length ∧ i = .int .i64 k ∧ Keep (l.take k = m.take k) ∧ Below w.heap.size w wr) (fun i _ => l.length - (intOf i).toNat)
      case atStart => exact ⟨0, Nat.zero_le _, rfl, ⟨by simp⟩, Below.refl _ _⟩
      case round =>
        obtain ⟨k, hk, rfl, heq, hb⟩ := hrel
        by_cases hlt : k < l.length
        · obtain ⟨x, hx⟩ : ∃ x, l[k]? = some x := ⟨_, List.getElem?_eq_getElem hlt⟩
          obtain ⟨y, hy⟩ : ∃ y, m[k]? = some y := ⟨_, List.getElem?_eq_getElem (by have := HL.out; omega)⟩
          have hc := (hb.cell (p := ⟨b, o + k, none⟩) h3).trans (h4 k _ hx)
          have hc' := (hb.cell (p := ⟨b', o' + k, none⟩) h3').trans (h4' k _ hy)
          have HX := Keep.mk hx
          have HY := Keep.mk hy
          clear hx hy h4 h4'
          go_wp2
          go_quiet (fail)
          go_wp2
          · rename_i hne
            go_ret
            refine ⟨ret_bool ?_, below_drewN hb _⟩
            rw [toList_beq] at hne
            refine (decide_eq_false fun e => ?_).symm
            have h1 := HX.out
            have h2 := HY.out
            rw [e] at h1
            rw [h1] at h2
            simp at h2
            simp [h2] at hne
          · rename_i hne
            rw [toList_beq] at hne
            have hxy : x = y := by simpa using hne
            go_roundw
            case rel =>
              refine ⟨k + 1, by omega, by go_num, ⟨?_⟩, below_drewN hb _⟩
              rw [List.take_add_one, List.take_add_one, heq.out, HX.out, HY.out, hxy]
            case measure => simp [intOf]; omega
        · go_wp2
          go_ret
          refine ⟨ret_bool (decide_eq_true ?_).symm, hb⟩
          have h1 := heq.out
          have h2 := HL.out
          rw [List.take_of_length_le (by omega), List.take_of_length_le (by omega)] at h1
          exact h1
  · obtain ⟨a, c, rfl, h1, h2, _⟩ := hu
    obtain ⟨a', c', rfl, h1', h2', _⟩ := hv
    have hd : (((l.length : Int)) != (m.length : Int)) = true := by rw [bne_iff_ne]; omega
    go_enter Try.func12, Try.ntmps12
    go_wp2
    go_ret
    exact ⟨ret_bool (decide_eq_false fun e => hlen (by rw [e])).symm, Below.refl _ _⟩
end Go.Proofs.Ytflkmifcmaeccaa
