/- The law ChunkerRepetition: n copies of the same chunks have n times the chunks. No condition. -/
import Derived.Test.YtflkmifcmaeccaaChunkerJoins
import Derived.Deep.QuietTactic
import Derived.BigQuiet
namespace Go.Proofs.Ytflkmifcmaeccaa
open Go.RowKit Go.Shelf Go.Proofs.Ytflkmifcmaeccaa.Chunk Go.ChangeShapes Go.WideShapes Go.ChangeAt
open Go.ChangeMaps (open_string shut_string)

theorem Strs.take {w : World} {b o c : Nat} {l : List ByteArray} {n m : Nat} (hn : l.length ≤ c) (hm : c ≤ maxLen) (hb : b < w.heap.size) (h : ∀ i s, l[i]? = some s → w.cell? ⟨b, o + i, none⟩ = some (.string s)) (hl : m = n) (hnl : n ≤ l.length) :
    Strs w (.slice (some ⟨b, o, none⟩) m c) (l.take n) := by
  subst hl
  have e : (l.take m).length = m := by rw [List.length_take]; omega
  refine ⟨some ⟨b, o, none⟩, c, by rw [e], by omega, hm, .inr ⟨b, o, rfl, hb, fun i s hi => h i s ?_⟩⟩
  rw [List.getElem?_take] at hi
  split at hi
  · exact hi
  · cases hi

/-- The chunks of a content that is k copies of chunks that each end whatever follows. -/
theorem repeat_chunks {l : List UInt8} (h : 2 ≤ (chunkS l).length) (k : Nat) :
    chunkS (Lib.repeatL (((chunkS l).take ((chunkS l).length - 1)).map (·.data.toList)).flatten k) = (List.replicate k ((chunkS l).take ((chunkS l).length - 1))).flatten := by
  have e : ((chunkS l).take ((chunkS l).length - 1)).map (·.data.toList) = (split l).take ((split l).length - 1) := by
    simp only [chunkS, List.length_map, ← List.map_take, List.map_map]
    conv => rhs; rw [← List.map_id ((split l).take ((split l).length - 1))]
    exact List.map_congr_left fun a _ => data_mkS a
  rw [e, repeatL_flatten, chunkS, split_repeat (fun c hc => take_closed (l := l) (i := (split l).length - 1) (by simp [chunkS] at h; omega) hc)]
  simp only [chunkS, List.length_map, List.map_flatten, List.map_replicate, List.map_take]
theorem replicate_get {α : Type} (l : List α) (k : Nat) : ∀ i, i < k * l.length → (List.replicate k l).flatten[i]? = l[i % l.length]? := by
  induction k with
  | zero => intro i h; simp at h
  | succ k ih =>
    intro i h
    rw [List.replicate_succ, List.flatten_cons]
    by_cases hi : i < l.length
    · rw [List.getElem?_append_left hi, Nat.mod_eq_of_lt hi]
    · rw [List.getElem?_append_right (by omega), ih _ (by rw [Nat.succ_mul] at h; omega), ← Nat.mod_eq_sub_mod (by omega)]

set_option maxHeartbeats 1000000 in
theorem chunkerRepetition_any (s : ByteArray) (n : Int) (w : World) (hs : s.size ≤ maxLen) (hn0 : 0 ≤ n) (hn1 : n ≤ 255) :
    Calls Try.prog 8 #[.string s, .int .u8 n] w fun e w' => e = .returned (.bool true) ∧ Below w.heap.size w w' := by
  have hm := hs
  unfold maxLen at hm
  by_cases hbig : 2000 < s.size
  · have hb : (2000 : Int) < (s.size : Int) := by omega
    go_enter Try.func8, Try.ntmps8
    go_wp2_with (go_at_call 9; refine (alive_any _).mono ?_; rintro e w1 ⟨rfl, hb1⟩)
    go_ret
    exact ⟨rfl, hb1⟩
  · have hb : ¬ (2000 : Int) < (s.size : Int) := by omega
    go_enter Try.func8, Try.ntmps8
    go_wp2_with fail
    refine (alive_any _).mono ?_
    rintro e w1 ⟨rfl, hb1⟩
    have hz1 := hb1.size
    go_wp2_with fail
    refine (split_strs s w1 (by omega)).mono ?_
    rintro e w2 ⟨v, rfl, hS, hb2⟩
    have hz2 := hb2.size
    have hlen := chunkS_length s.data.toList
    rw [show s.data.toList.length = s.size by simp] at hlen
    have hfin : ∀ w', Below w2.heap.size w2 w' → Below w.heap.size w w' := fun w' h => (hb1.trans (hb2.mono hz1)).trans (h.mono (by omega))
    have HFin := Keep.mk hfin
    have HF : Keep (((chunkS s.data.toList).map (·.data.toList)).flatten = s.data.toList) := ⟨chunkS_flatten _⟩
    have HRep : Keep (2 ≤ (chunkS s.data.toList).length → ∀ k, chunkS (Lib.repeatL (((chunkS s.data.toList).take ((chunkS s.data.toList).length - 1)).map (·.data.toList)).flatten k) = (List.replicate k ((chunkS s.data.toList).take ((chunkS s.data.toList).length - 1))).flatten) := ⟨fun h k => repeat_chunks h k⟩
    clear hfin hb1 hb2
    generalize chunkS s.data.toList = l at *
    by_cases hl : l.length < 2
    · obtain ⟨a, c, rfl, _⟩ := hS
      have hll : (l.length : Int) < 2 := by omega
      go_wp2
      go_ret
      exact ⟨rfl, HFin.out _ (Below.refl _ _)⟩
    · obtain ⟨b, o, c, rfl, h1, h2, h3, h4⟩ := hS.cons_cases (by intro e; rw [e] at hl; simp at hl)
      have hm2 := h2
      unfold maxLen at h2
      have hll : ¬ (l.length : Int) < 2 := by omega
      have hS2 := Strs.take (m := l.length - 1) (n := l.length - 1) h1 hm2 h3 h4 rfl (by omega)
      have H4 := Keep.mk h4
      clear h4
      obtain ⟨m, hmd⟩ : ∃ m, m = l.take (l.length - 1) := ⟨_, rfl⟩
      obtain ⟨L, hL⟩ : ∃ L, L = l.length - 1 := ⟨_, rfl⟩
      have hml : m.length = L := by rw [hmd, hL, List.length_take]; omega
      have hL1 : 1 ≤ L := by omega
      have hLb : L ≤ 2000 := by omega
      have hmf : (m.map (·.data.toList)).flatten.length ≤ 2000 := by
        have h1 := congrArg List.length HF.out
        have h2 : ((l.take (l.length - 1)).map (·.data.toList)).flatten.length ≤ (l.map (·.data.toList)).flatten.length := by
          conv => rhs; rw [← List.take_append_drop (l.length - 1) l]
          rw [List.map_append, List.flatten_append, List.length_append]; omega
        rw [hmd]
        have h3 : s.data.toList.length = s.size := by simp
        omega
      have HM : Keep (∀ i x, m[i]? = some x → w2.cell? ⟨b, o + i, none⟩ = some (.string x)) := ⟨fun i x hx => H4.out i x (by
        rw [hmd, List.getElem?_take] at hx
        split at hx
        · exact hx
        · cases hx)⟩
      have HR := HRep.out (by omega)
      rw [← hmd] at HR hS2
      have HR' := Keep.mk HR
      have hL' : L = l.length - 1 := hL
      clear HR HRep HF H4 hmd
      rw [← hL] at hS2
      have HML := Keep.mk hml
      have HLL := Keep.mk hL
      clear hml hL hL'
      have hlL : ((l.length - 1 : Nat) : Int) = (L : Int) := by have := HLL.out; omega
      go_wp2_with fail
      rw [← HLL.out]
      refine (joinE_any _ m w2 hS2 (by have := HML.out; omega) (by omega)).mono ?_
      rintro e w3 ⟨rfl, hb3⟩
      have hz3 := hb3.size
      have hbn : 0 ≤ n % 5 ∧ n % 5 < 5 := by omega
      go_wp2_with fail
      obtain ⟨k, hk⟩ : ∃ k : Nat, 1 + n % 5 = (k : Int) := ⟨(1 + n % 5).toNat, by omega⟩
      have hk5 : 1 ≤ k ∧ k ≤ 5 := by omega
      rw [hk]
      clear hk hbn
      refine (repeat_any _ (k : Int) w3 (by omega) (by rw [size_mkS, Int.toNat_natCast]; exact Nat.le_trans (Nat.mul_le_mul hmf hk5.2) (by decide)) (by omega)).mono ?_
      rintro e w4 ⟨rfl, hb4⟩
      have hz4 := hb4.size
      have hA : chunkS (mkS (Lib.repeatL (mkS (m.map (·.data.toList)).flatten).data.toList (k : Int).toNat)).data.toList = (List.replicate k m).flatten := by
        rw [data_mkS, data_mkS, Int.toNat_natCast]; exact HR'.out k
      have hsz : (mkS (Lib.repeatL (mkS (m.map (·.data.toList)).flatten).data.toList (k : Int).toNat)).size ≤ 1000000 := by
        rw [size_mkS, Lib.repeatL_length, data_mkS, Int.toNat_natCast, Nat.mul_comm]
        exact Nat.le_trans (Nat.mul_le_mul hmf hk5.2) (by decide)
      have HA := Keep.mk hA
      clear hA HR'
      generalize mkS (Lib.repeatL (mkS (m.map (·.data.toList)).flatten).data.toList (k : Int).toNat) = all at *
      go_wp2_with fail
      refine (split_strs all w4 hsz).mono ?_
      rintro e w5 ⟨v5, rfl, hS5, hb5⟩
      have hz5 := hb5.size
      rw [HA.out] at hS5
      have hAl : (List.replicate k m).flatten.length = k * L := by rw [← HML.out]; simp
      have HG : Keep (∀ i, i < k * L → (List.replicate k m).flatten[i]? = m[i % L]?) := ⟨fun i hi => by
        have := replicate_get m k i (by rw [HML.out]; exact hi)
        rw [HML.out] at this
        exact this⟩
      have hkL : 1 ≤ k * L ∧ k * L ≤ 10000 := ⟨Nat.le_trans (by decide) (Nat.mul_le_mul hk5.1 hL1), Nat.le_trans (Nat.mul_le_mul hk5.2 hLb) (by decide)⟩
      obtain ⟨b5, o5, c5, rfl, h15, h25, h35, h45⟩ := hS5.cons_cases (by intro e; rw [e] at hAl; simp at hAl; omega)
      rw [hAl] at h15 ⊢
      have hb45 := (hb4.trans (hb5.mono hz4))
      have HFin5 : Keep (∀ w', Below w5.heap.size w5 w' → Below w.heap.size w w') := ⟨fun w' h => HFin.out w' ((hb3.trans (hb45.mono hz3)).trans (h.mono (by omega)))⟩
      have HM5 : Keep (∀ i x, m[i]? = some x → w5.cell? ⟨b, o + i, none⟩ = some (.string x)) := ⟨fun i x hx => by
        have hc := HM.out i x hx
        have h := ((hb3.trans (hb45.mono hz3)).cell (p := ⟨b, o + i, none⟩) h3)
        exact h.trans hc⟩
      have H45 := Keep.mk h45
      obtain ⟨T, hT⟩ : ∃ T : Nat, T = k * L := ⟨_, rfl⟩
      have hTi : (k : Int) * (L : Int) = (T : Int) := by rw [hT]; simp
      rw [← hT] at h15 hkL ⊢
      have HT := Keep.mk hT
      clear hAl hb45 hb3 hb4 hb5 HFin HM hS2 h45 hT hS5
      unfold maxLen at h25
      go_wp2
      go_loopw [44] (fun i wr => ∃ j : Nat, j ≤ T ∧ i = .int .i64 j ∧ Below w5.heap.size w5 wr) (fun i _ => T - (intOf i).toNat)
      case atStart => exact ⟨0, Nat.zero_le _, rfl, Below.refl _ _⟩
      case round =>
        obtain ⟨j, hj, rfl, hb⟩ := hrel
        by_cases hlt : j < T
        · have hjm : j % L < L := Nat.mod_lt _ hL1
          obtain ⟨x, hx⟩ : ∃ x, m[j % L]? = some x := ⟨_, List.getElem?_eq_getElem (by rw [HML.out]; exact hjm)⟩
          have hx2 := HG.out j (by have := HT.out; omega)
          rw [hx] at hx2
          have hc := (hb.cell (p := ⟨b, o + j % L, none⟩) (by simp; omega)).trans (HM5.out _ _ hx)
          have hc' := (hb.cell (p := ⟨b5, o5 + j, none⟩) h35).trans (H45.out _ _ hx2)
          have hne : (!x.toList == x.toList) = false := by simp
          have hji : ((j : Int) % (L : Int)).toNat = j % L := by rw [← Int.natCast_emod, Int.toNat_natCast]
          clear hx hx2
          go_wp2
          go_quiet (fail)
          go_wp2
          go_roundw
          case rel => exact ⟨j + 1, by omega, by go_num, below_drewN hb _⟩
          case measure => simp [intOf]; omega
        · go_wp2
          go_ret
          exact ⟨rfl, HFin5.out _ hb⟩

theorem ChunkerRepetition_walk : LawWalk 8 Try.f8 := by
  intro H enc W base args ds ps hval hA _
  rw [Try.params8] at hA hval
  obtain ⟨v0, vs0, d0, ds0, p0, q0, hargs, rfl, rfl, h0, r0⟩ := trodAll_cons hA
  obtain ⟨v1, vs1, d1, ds1, p1, q1, rfl, rfl, rfl, h1, r1⟩ := trodAll_cons r0
  obtain ⟨rfl, rfl, rfl⟩ := trodAll_nil r1
  obtain rfl : args = #[v0, v1] := by cases args; simp_all
  obtain ⟨s, rfl, rfl, rfl, hs⟩ := open_string Try.underlying9 (hval 0 9 v0 rfl rfl) h0
  obtain ⟨n, rfl, rfl, rfl, wn⟩ := open_int Try.underlying5 (hval 1 5 v1 rfl rfl) h1
  have hn : 0 ≤ n ∧ n ≤ 255 := by simpa [Lit.wf, IntKind.min, IntKind.max, IntKind.signed, IntKind.bits] using wn
  exact chunkerRepetition_any s n W hs hn.1 hn.2
end Go.Proofs.Ytflkmifcmaeccaa
namespace Go.Proofs.Ytflkmifcmaeccaa
open Go.ChangeShapes Go.WideShapes Go.ChangeAt Go.RowKit
set_option maxRecDepth 100000 in
theorem ChunkerRepetition_lifted (os : Os) (started : os.Started) (H : Type) (enc : TypeId × Value → H) :
    ReturnsInHanded {} Try.checked os 8 .any (Rows.chunkerRepetitionSpec.pre6 enc Try.prog Try.f8 Rows.chunkerRepetitionRow.domain false) (Rows.chunkerRepetitionSpec.post enc Try.prog Try.f8 false true false false) := by
  refine returnsInHanded_of_change_sized (C := Try.checked) own started (by kernel_rfl) Try.func8
    (ChangeSpec.witness6 (enc := enc) (C := Try.checked) false ⟨#[], #[.string ⟨#[]⟩, .int .u8 0], []⟩ 8 (by kernel_rfl) (by kernel_rfl) (by kernel_rfl) (by kernel_rfl)) ?_
  exact law_contract (by kernel_rfl) (by kernel_rfl) ⟨rfl, fun H ds h => by rw [Try.params8] at h; match ds, h with | [d0, d1], _ => rfl⟩ ChunkerRepetition_walk
theorem ChunkerRepetition_over : Rows.chunkerRepetitionRow.holds Try.pinned (OpenSpec.ofChange Rows.chunkerRepetitionSpec) :=
  OpenClaim.holds_of_wide 8 Try.f8 rfl rfl rfl rfl rfl rfl rfl ⟨rfl, rfl, rfl, rfl, rfl⟩ rfl rfl rfl rfl rfl (by kernel_rfl) Try.func8 (by kernel_rfl)
    (of_decide_eq_true (by kernel_rfl)) (by unfold Func.isWrapper; first | (rw [if_pos (by decide +kernel)]; kernel_rfl) | (rw [if_neg (by decide +kernel)]; exact ⟨rfl, rfl⟩))
    (fun os started H enc _ => ChunkerRepetition_lifted os started H enc)
theorem ChunkerRepetition_proved : Rows.ChunkerRepetitionSaid := ChunkerRepetition_over
end Go.Proofs.Ytflkmifcmaeccaa
