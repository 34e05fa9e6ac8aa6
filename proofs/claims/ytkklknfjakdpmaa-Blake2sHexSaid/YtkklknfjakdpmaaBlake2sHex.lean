/- The law Blake2sHex: Hex agrees with the reference implementation, and its result consists of two lowercase hexadecimal digits for each byte. No condition. -/
import Derived.Test.YtkklknfjakdpmaaB2Alive
import Derived.Test.YtkklknfjakdpmaaLaw
namespace Go.Proofs.Ytkklknfjakdpmaa
open Go.RowKit Go.Shelf Go.Proofs.Ytkklknfjakdpmaa.B2 Go.ChangeShapes Go.WideShapes Go.ChangeAt
open Go.ChangeMaps (open_string shut_string)

theorem nib_range (n : Nat) (h : n < 16) : (48 ≤ (nib n).toNat ∧ (nib n).toNat ≤ 57) ∨ (97 ≤ (nib n).toNat ∧ (nib n).toNat ≤ 102) := by
  have : ∀ n, n < 16 → (48 ≤ (nib n).toNat ∧ (nib n).toNat ≤ 57) ∨ (97 ≤ (nib n).toNat ∧ (nib n).toNat ≤ 102) := by decide +kernel
  exact this n h
theorem hex_mem {l : List UInt8} {c : UInt8} (h : c ∈ hex l) : (48 ≤ c.toNat ∧ c.toNat ≤ 57) ∨ (97 ≤ c.toNat ∧ c.toNat ≤ 102) := by
  unfold hex at h
  obtain ⟨b, _, hb⟩ := List.mem_flatMap.1 h
  have := b.toNat_lt
  simp only [List.mem_cons, List.not_mem_nil, or_false] at hb
  rcases hb with rfl | rfl
  · exact nib_range _ (by omega)
  · exact nib_range _ (by omega)

set_option maxHeartbeats 2000000 in
theorem blake2sHex_any (s : ByteArray) (w : World) : Calls Try.prog 7 #[.string s] w fun e w' => e = .returned (.bool true) ∧ Below w.heap.size w w' := by
  by_cases hbig : 2000 < s.size
  · have hb : (2000 : Int) < (s.size : Int) := by omega
    go_enter Try.func7, Try.ntmps7
    go_wp2_with (go_at_call 11; refine (alive_any _).mono ?_; rintro e w1 ⟨rfl, hb1⟩)
    go_ret
    exact ⟨rfl, hb1⟩
  · have hb : ¬ (2000 : Int) < (s.size : Int) := by omega
    go_enter Try.func7, Try.ntmps7
    go_wp2_with fail
    refine (alive_any _).mono ?_
    rintro e w1 ⟨rfl, hb1⟩
    have H1 := Keep.mk hb1
    clear hb1
    go_wp2_with fail
    refine (hex_any s (by omega) w1).mono ?_
    rintro e w2 ⟨rfl, hb2⟩
    have H2 := Keep.mk (H1.out.trans (hb2.mono H1.out.size))
    clear H1 hb2
    obtain ⟨x, hx⟩ : ∃ x, x = mkS (hex s.data.toList) := ⟨_, rfl⟩
    have hxs : x.size = 2 * s.size := by rw [hx, size_mkS, hex_length]; simp
    have HM : Keep (∀ (k : Nat) (h : k < x.size), (48 ≤ (x[k]'h).toNat ∧ (x[k]'h).toNat ≤ 57) ∨ (97 ≤ (x[k]'h).toNat ∧ (x[k]'h).toNat ≤ 102)) := ⟨fun k h => by
      subst hx
      refine hex_mem (l := s.data.toList) ?_
      have hl : k < (hex s.data.toList).length := by simpa [size_mkS] using h
      have e : ((mkS (hex s.data.toList))[k]'h) = (hex s.data.toList)[k]'hl := by simp only [mkS]; rfl
      rw [e]
      exact List.getElem_mem _⟩
    rw [← hx]
    have HX := Keep.mk hx
    clear hx
    go_wp2_with fail
    go_loopw [4] (fun i wr => ∃ k : Nat, k ≤ x.size ∧ i = .int .i64 k ∧ Below w.heap.size w wr) (fun i _ => x.size - (intOf i).toNat)
    case atStart => exact ⟨0, by omega, rfl, H2.out⟩
    case round =>
      obtain ⟨k, hk, rfl, hB⟩ := hrel
      have HB := Keep.mk hB
      clear hB H2
      by_cases hlt : k < x.size
      · have hc := HM.out k hlt
        obtain ⟨c, hce⟩ : ∃ c : UInt8, x[k]'hlt = c := ⟨_, rfl⟩
        rw [hce] at hc
        have i0 : (0 : Int) ≤ k := by omega
        have i1 : (k : Int) < x.size := by omega
        have hxb : x.size ≤ 4000 := by omega
        rcases hc with ⟨h1, h2⟩ | ⟨h1, h2⟩
        · have g1 : ¬ (c.toNat : Int) < 48 := by omega
          have g2 : ¬ (57 : Int) < (c.toNat : Int) := by omega
          clear h1 h2 hxs
          go_wp2
          go_roundw
          case rel => exact ⟨k + 1, by omega, by go_num, HB.out⟩
          case measure => simp [intOf]; omega
        · have g1 : ¬ (c.toNat : Int) < 48 := by omega
          have g2 : (57 : Int) < (c.toNat : Int) := by omega
          have g3 : ¬ (c.toNat : Int) < 97 := by omega
          have g4 : ¬ (102 : Int) < (c.toNat : Int) := by omega
          clear h1 h2 hxs
          go_wp2
          go_roundw
          case rel => exact ⟨k + 1, by omega, by go_num, HB.out⟩
          case measure => simp [intOf]; omega
      · go_wp2_with fail
        refine (refHex_any s (by omega) wr).mono ?_
        rintro e w3 ⟨rfl, hb3⟩
        rw [← HX.out]
        have heq : ((x.size : Int) == 2 * (s.size : Int)) = true := by simp; omega
        clear hxs
        go_wp2
        go_ret
        exact ⟨rfl, HB.out.trans (hb3.mono HB.out.size)⟩

theorem Blake2sHex_walk : LawWalk 7 Try.f7 := by
  intro H enc W base args ds ps hval hA _
  rw [Try.params7] at hA hval
  obtain ⟨v0, vs0, d0, ds0, p0, q0, hargs, rfl, rfl, h0, r0⟩ := trodAll_cons hA
  obtain ⟨rfl, rfl, rfl⟩ := trodAll_nil r0
  obtain rfl : args = #[v0] := by cases args; simp_all
  obtain ⟨s, rfl, rfl, rfl, hs⟩ := open_string Try.underlying9 (hval 0 9 v0 rfl rfl) h0
  exact blake2sHex_any s W
end Go.Proofs.Ytkklknfjakdpmaa
namespace Go.Proofs.Ytkklknfjakdpmaa
open Go.ChangeShapes Go.WideShapes Go.ChangeAt Go.RowKit
set_option maxRecDepth 100000 in
theorem Blake2sHex_lifted (os : Os) (started : os.Started) (H : Type) (enc : TypeId × Value → H) :
    ReturnsInHanded {} Try.checked os 7 .any (Rows.blake2sHexSpec.pre6 enc Try.prog Try.f7 Rows.blake2sHexRow.domain false) (Rows.blake2sHexSpec.post enc Try.prog Try.f7 false true false false) := by
  refine returnsInHanded_of_change_sized (C := Try.checked) own started (by kernel_rfl) Try.func7
    (ChangeSpec.witness6 (enc := enc) (C := Try.checked) false ⟨#[], #[.string ⟨#[]⟩], []⟩ 8 (by kernel_rfl) (by kernel_rfl) (by kernel_rfl) (by kernel_rfl)) ?_
  exact law_contract (by kernel_rfl) (by kernel_rfl) ⟨rfl, fun H ds h => by rw [Try.params7] at h; match ds, h with | [d0], _ => rfl⟩ Blake2sHex_walk
theorem Blake2sHex_over : Rows.blake2sHexRow.holds Try.pinned (OpenSpec.ofChange Rows.blake2sHexSpec) :=
  OpenClaim.holds_of_wide 7 Try.f7 rfl rfl rfl rfl rfl rfl rfl ⟨rfl, rfl, rfl, rfl, rfl⟩ rfl rfl rfl rfl rfl (by kernel_rfl) Try.func7 (by kernel_rfl)
    (of_decide_eq_true (by kernel_rfl)) (by unfold Func.isWrapper; first | (rw [if_pos (by decide +kernel)]; kernel_rfl) | (rw [if_neg (by decide +kernel)]; exact ⟨rfl, rfl⟩))
    (fun os started H enc _ => Blake2sHex_lifted os started H enc)
theorem Blake2sHex_proved : Rows.Blake2sHexSaid := Blake2sHex_over
end Go.Proofs.Ytkklknfjakdpmaa
