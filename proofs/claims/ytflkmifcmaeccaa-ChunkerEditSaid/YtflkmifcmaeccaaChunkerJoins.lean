/- The law ChunkerJoins: the chunks joined are the data, within their bounds. No condition. -/
import Derived.Test.YtflkmifcmaeccaaChunkAlive
import Derived.Test.YtflkmifcmaeccaaLaw
namespace Go.Proofs.Ytflkmifcmaeccaa
open Go.RowKit Go.Shelf Go.Proofs.Ytflkmifcmaeccaa.Chunk Go.ChangeShapes Go.WideShapes Go.ChangeAt
open Go.ChangeMaps (open_string shut_string)

theorem chunkS_flatten (l : List UInt8) : ((chunkS l).map (·.data.toList)).flatten = l := by
  rw [chunkS, List.map_map]
  have : (split l).map ((fun x : ByteArray => x.data.toList) ∘ mkS) = split l := by
    conv => rhs; rw [← List.map_id (split l)]
    exact List.map_congr_left fun a _ => data_mkS a
  rw [this, split_flatten]
theorem chunkS_get {l : List UInt8} {i : Nat} {x : ByteArray} (h : (chunkS l)[i]? = some x) : 1 ≤ x.size ∧ x.size ≤ 96 ∧ (i + 1 < (chunkS l).length → 16 ≤ x.size) := by
  simp only [chunkS, List.getElem?_map, Option.map_eq_some_iff, List.length_map] at *
  obtain ⟨c, hc, rfl⟩ := h
  have hm := List.mem_of_getElem? hc
  rw [size_mkS]
  refine ⟨List.length_pos_iff.2 (split_ne hm), split_96 hm, fun hi => ?_⟩
  have := take_closed (l := l) (i := i + 1) (c := c) (by omega) (List.mem_of_getElem? (i := i) (by rw [List.getElem?_take_of_lt (by omega)]; exact hc))
  exact this.2.1

set_option maxHeartbeats 1000000 in
theorem chunkerJoins_any (s : ByteArray) (w : World) (hs : s.size ≤ maxLen) :
    Calls Try.prog 5 #[.string s] w fun e w' => e = .returned (.bool true) ∧ Below w.heap.size w w' := by
  have hm := hs
  unfold maxLen at hm
  by_cases hbig : 20000 < s.size
  · have hb : (20000 : Int) < (s.size : Int) := by omega
    go_enter Try.func5, Try.ntmps5
    go_wp2_with (go_at_call 9; refine (alive_any _).mono ?_; rintro e w1 ⟨rfl, hb1⟩)
    go_ret
    exact ⟨rfl, hb1⟩
  · have hb : ¬ (20000 : Int) < (s.size : Int) := by omega
    go_enter Try.func5, Try.ntmps5
    go_wp2_with fail
    refine (alive_any _).mono ?_
    rintro e w1 ⟨rfl, hb1⟩
    have hz1 := hb1.size
    go_wp2_with fail
    refine (split_strs s w1 (by omega)).mono ?_
    rintro e w2 ⟨v, rfl, hS, hb2⟩
    have hz2 := hb2.size
    have hlen := chunkS_length s.data.toList
    rw [show s.data.toList.length = s.size by simp] at hlen
    have HF : Keep (((chunkS s.data.toList).map (·.data.toList)).flatten = s.data.toList) := ⟨chunkS_flatten _⟩
    have HG : Keep (∀ i x, (chunkS s.data.toList)[i]? = some x → 1 ≤ x.size ∧ x.size ≤ 96 ∧ (i + 1 < (chunkS s.data.toList).length → 16 ≤ x.size)) := ⟨fun i x h => chunkS_get h⟩
    have hfin : ∀ w', Below w2.heap.size w2 w' → Below w.heap.size w w' := fun w' h => (hb1.trans (hb2.mono hz1)).trans (h.mono (by omega))
    have HFin := Keep.mk hfin
    clear hfin hb1 hb2
    generalize chunkS s.data.toList = l at *
    by_cases hl : l = []
    · subst hl
      obtain ⟨a, c, rfl, _⟩ := hS.nil_cases
      go_wp2
      refine wp_loop_rounds 1 ?_
      rw [rounds_succ]
      go_wp2_with fail
      refine (joinE_any _ [] w2 hS (by simp) (by simp)).mono ?_
      rintro e w3 ⟨rfl, hb3⟩
      rw [HF.out, mkS_data]
      go_wp2
      go_ret
      exact ⟨ret_bool (by simp), HFin.out _ hb3⟩
    · obtain ⟨b, o, c, rfl, h1, h2, h3, h4⟩ := hS.cons_cases hl
      have hSk : Strs w2 (.slice (some ⟨b, o, none⟩) l.length c) l := ⟨_, c, rfl, h1, h2, .inr ⟨b, o, rfl, h3, h4⟩⟩
      unfold maxLen at h2
      go_wp2
      go_loopw [15] (fun i wr => ∃ k : Nat, k ≤ l.length ∧ i = .int .i64 k ∧ w2 = wr) (fun i _ => l.length - (intOf i).toNat)
      case atStart => exact ⟨0, Nat.zero_le _, rfl, rfl⟩
      case round =>
        obtain ⟨k, hk, rfl, rfl⟩ := hrel
        by_cases hlt : k < l.length
        · obtain ⟨x, hx⟩ : ∃ x, l[k]? = some x := ⟨_, List.getElem?_eq_getElem hlt⟩
          have hc := h4 k _ hx
          obtain ⟨x1, x2, x3⟩ := HG.out k x hx
          have e1 : ((x.size : Int) == 0) = false := beq_eq_false_iff_ne.2 (by omega)
          have e2 : ¬ (96 : Int) < (x.size : Int) := by omega
          clear hx h4
          by_cases hn : k + 1 < l.length
          · have e3 : ¬ (x.size : Int) < 16 := by have := x3 hn; omega
            clear x3
            go_wp2
            go_roundw
            case rel => exact ⟨k + 1, by omega, by go_num, by trivial⟩
            case measure => simp [intOf]; omega
          · clear x3
            go_wp2
            go_roundw
            case rel => exact ⟨k + 1, by omega, by go_num, by trivial⟩
            case measure => simp [intOf]; omega
        · go_wp2_with fail
          refine (joinE_any _ l w2 hSk (by omega) (by rw [HF.out]; simp; omega)).mono ?_
          rintro e w3 ⟨rfl, hb3⟩
          rw [HF.out, mkS_data]
          go_wp2
          go_ret
          exact ⟨ret_bool (by simp), HFin.out _ hb3⟩

theorem ChunkerJoins_walk : LawWalk 5 Try.f5 := by
  intro H enc W base args ds ps hval hA _
  rw [Try.params5] at hA hval
  obtain ⟨v0, vs0, d0, ds0, p0, q0, hargs, rfl, rfl, h0, r0⟩ := trodAll_cons hA
  obtain ⟨rfl, rfl, rfl⟩ := trodAll_nil r0
  obtain rfl : args = #[v0] := by cases args; simp_all
  obtain ⟨s, rfl, rfl, rfl, hs⟩ := open_string Try.underlying9 (hval 0 9 v0 rfl rfl) h0
  exact chunkerJoins_any s W hs
end Go.Proofs.Ytflkmifcmaeccaa
namespace Go.Proofs.Ytflkmifcmaeccaa
open Go.ChangeShapes Go.WideShapes Go.ChangeAt Go.RowKit
set_option maxRecDepth 100000 in
theorem ChunkerJoins_lifted (os : Os) (started : os.Started) (H : Type) (enc : TypeId × Value → H) :
    ReturnsInHanded {} Try.checked os 5 .any (Rows.chunkerJoinsSpec.pre6 enc Try.prog Try.f5 Rows.chunkerJoinsRow.domain false) (Rows.chunkerJoinsSpec.post enc Try.prog Try.f5 false true false false) := by
  refine returnsInHanded_of_change_sized (C := Try.checked) own started (by kernel_rfl) Try.func5
    (ChangeSpec.witness6 (enc := enc) (C := Try.checked) false ⟨#[], #[.string ⟨#[]⟩], []⟩ 8 (by kernel_rfl) (by kernel_rfl) (by kernel_rfl) (by kernel_rfl)) ?_
  exact law_contract (by kernel_rfl) (by kernel_rfl) ⟨rfl, fun H ds h => by rw [Try.params5] at h; match ds, h with | [d0], _ => rfl⟩ ChunkerJoins_walk
theorem ChunkerJoins_over : Rows.chunkerJoinsRow.holds Try.pinned (OpenSpec.ofChange Rows.chunkerJoinsSpec) :=
  OpenClaim.holds_of_wide 5 Try.f5 rfl rfl rfl rfl rfl rfl rfl ⟨rfl, rfl, rfl, rfl, rfl⟩ rfl rfl rfl rfl rfl (by kernel_rfl) Try.func5 (by kernel_rfl)
    (of_decide_eq_true (by kernel_rfl)) (by unfold Func.isWrapper; first | (rw [if_pos (by decide +kernel)]; kernel_rfl) | (rw [if_neg (by decide +kernel)]; exact ⟨rfl, rfl⟩))
    (fun os started H enc _ => ChunkerJoins_lifted os started H enc)
theorem ChunkerJoins_proved : Rows.ChunkerJoinsSaid := ChunkerJoins_over
end Go.Proofs.Ytflkmifcmaeccaa
