/- Sum of the reference. Condition: at most a million bytes. -/
import Derived.Test.YtomlknjpaielgaaB2Digest
namespace Go.Proofs.Ytomlknjpaielgaa
set_option maxRecDepth 100000
open Go.RowKit Go.Shelf Go.Proofs.Ytomlknjpaielgaa.B2

theorem cat_take_succ {l : List ByteArray} {k : Nat} {s : ByteArray} (h : l[k]? = some s) : cat (l.take (k + 1)) = cat (l.take k) ++ s.data.toList := by
  rw [List.take_add_one, h]; simp [cat]
theorem cat_take_le (l : List ByteArray) (k : Nat) : (cat (l.take k)).length ≤ (cat l).length := by
  have h : cat l = cat (l.take k) ++ cat (l.drop k) := by unfold cat; rw [← List.flatMap_append, List.take_append_drop]
  rw [h, List.length_append]; omega
theorem Strs.at {w : World} {v : Value} {l : List ByteArray} (h : Strs w v l) : ∃ (a : Option Addr) (cap : Nat), v = .slice a l.length cap ∧ l.length ≤ cap ∧ cap ≤ maxLen ∧
    ∀ i s, l[i]? = some s → ∃ b o, a = some ⟨b, o, none⟩ ∧ b < w.heap.size ∧ w.cell? ⟨b, o + i, none⟩ = some (.string s) := by
  obtain ⟨a, cap, rfl, h1, h2, h3⟩ := h
  refine ⟨a, cap, rfl, h1, h2, fun i s hi => ?_⟩
  rcases h3 with rfl | ⟨b, o, rfl, hlt, hc⟩
  · simp at hi
  · exact ⟨b, o, rfl, hlt, hc i s hi⟩

set_option maxHeartbeats 2000000 in
theorem refSum_any {w : World} {v : Value} {l : List ByteArray} (hS : Strs w v l) (ht : (cat l).length ≤ 1000000) :
    Calls Try.prog 31 #[v] w fun e w' => e = .returned (.string (mkS (digest (cat l)))) ∧ Below w.heap.size w w' := by
  obtain ⟨a, cap, rfl, h1, h2, h3⟩ := hS.at
  clear hS
  have H3 := Keep.mk h3
  clear h3
  unfold maxLen at h2
  have hle := fun k => Nat.le_trans (cat_take_le l k) ht
  have HL := Keep.mk hle
  clear hle ht
  go_enter Try.func31, Try.ntmps31
  go_wp2_with fail
  go_loopw [4, 3] (fun i n wr => ∃ (k : Nat) (x : ByteArray), k ≤ l.length ∧ i = .int .i64 k ∧ n = .string x ∧ x.data.toList = cat (l.take k) ∧ Keep (w = wr)) (fun i _ _ => l.length - (intOf i).toNat)
  case atStart => exact ⟨0, ⟨#[]⟩, by omega, rfl, rfl, by simp [cat], ⟨rfl⟩⟩
  case round =>
    obtain ⟨k, x, hk, rfl, rfl, hx, hw⟩ := hrel
    by_cases hlt : k < l.length
    · obtain ⟨s, hs⟩ : ∃ s, l[k]? = some s := ⟨_, List.getElem?_eq_getElem hlt⟩
      obtain ⟨b, o, rfl, hbw, hc⟩ := H3.out k s hs
      rw [hw.out] at hc
      have hy : (x ++ s).data.toList = cat (l.take (k + 1)) := by rw [cat_take_succ hs, ← hx]; simp
      have hz : x.size + s.size ≤ 1000000 := by
        have := HL.out (k + 1)
        rw [← hy] at this
        simpa using this
      have hcat := fun (wx : World) => run_string_add_sum (P := Try.prog) wx x s (by omega)
      have HY := Keep.mk hy
      clear hy hx hs
      generalize x ++ s = y at *
      have i0 : (0 : Int) ≤ k := by omega
      have i1 : (k : Int) < l.length := by omega
      clear hz
      go_wp2
      go_roundw
      case rel => exact ⟨k + 1, y, by omega, by go_num, rfl, HY.out, hw⟩
      case measure => simp [intOf]; omega
    · have hkl : k = l.length := by omega
      subst hkl
      rw [List.take_length] at hx
      have hxs : x.size ≤ 1000000 := by
        have := HL.out l.length
        rw [List.take_length, ← hx] at this
        simpa using this
      have HX := Keep.mk hx
      clear hx
      go_wp2_with fail
      refine (digest_any x hxs wr).mono ?_
      rintro e w2 ⟨rfl, hb⟩
      rw [HX.out]
      go_wp2
      go_ret
      exact ⟨rfl, by rw [hw.out]; exact hb⟩
end Go.Proofs.Ytomlknjpaielgaa
