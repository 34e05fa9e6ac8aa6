/- The law ChunkerAppend: appending bytes changes at most the last chunk. No condition. -/
import Derived.Test.YtflkmifcmaeccaaChunkerRepetition
import Derived.Deep.RegionHeld3
namespace Go.Proofs.Ytflkmifcmaeccaa
open Go.RowKit Go.Shelf Go.Proofs.Ytflkmifcmaeccaa.Chunk Go.ChangeShapes Go.WideShapes Go.ChangeAt
open Go.ChangeMaps (open_string shut_string)

theorem app_data (a b : ByteArray) : (a ++ b).data.toList = a.data.toList ++ b.data.toList := by simp
theorem chunkS_append {l x : List UInt8} (e : l ≠ []) : ∃ a, (a ≠ [] ∧ a.length ≤ 96) ∧ chunkS l = (chunkS l).dropLast ++ [mkS a] ∧ chunkS (l ++ x) = (chunkS l).dropLast ++ chunkS (a ++ x) := by
  obtain ⟨a, h1, h2, h3⟩ := split_last_append l x e
  refine ⟨a, h2, ?_, ?_⟩
  · simp only [chunkS, ← List.map_dropLast]
    conv => lhs; rw [h1]
    rw [List.map_append]; rfl
  · simp only [chunkS, ← List.map_dropLast]
    rw [h3, List.map_append]

theorem hasPrefix_append (a b : List UInt8) : Lib.hasPrefix (a ++ b) a = true := by
  unfold Lib.hasPrefix
  rw [List.isPrefixOf_iff_prefix]
  exact List.prefix_append a b
theorem Strs.held {w W : World} {v : Value} {l : List ByteArray} {P : Prop} (h : Strs w v l) (hb : P ∧ Below w.heap.size w W) : Strs W v l := h.below hb.2 (Nat.le_refl _)
theorem held_step {B k : Nat} {v : Value} {w W W' : World} (hB : B < w.heap.size) (hb : Below W.heap.size W W') (h : W.cell? ⟨B, k, none⟩ = some v ∧ Below w.heap.size w W) : W'.cell? ⟨B, k, none⟩ = some v ∧ Below w.heap.size w W' :=
  ⟨(hb.cell (p := ⟨B, k, none⟩) (Nat.lt_of_lt_of_le hB h.2.size)).trans h.1, h.2.trans (hb.mono h.2.size)⟩

set_option maxHeartbeats 400000 in
theorem chunkerAppend_any (s t : ByteArray) (w : World) (hs : s.size ≤ reachBytes) (ht : t.size ≤ reachBytes) :
    Calls Try.prog 7 #[.string s, .string t] w fun e w' => e = .returned (.bool true) ∧ Below w.heap.size w w' := by
  have hm := hs
  have hm2 := ht
  unfold reachBytes at hm hm2
  by_cases hbig : 10000 < s.size + t.size
  · have hb : (10000 : Int) < (s.size : Int) + (t.size : Int) := by omega
    go_enter Try.func7, Try.ntmps7
    go_wp2_with (go_at_call 9; refine (alive_any _).mono ?_; rintro e w1 ⟨rfl, hb1⟩)
    go_ret
    exact ⟨rfl, hb1⟩
  · have hb : ¬ (10000 : Int) < (s.size : Int) + (t.size : Int) := by omega
    go_enter Try.func7, Try.ntmps7
    go_wp2_with fail
    refine (alive_any _).mono ?_
    rintro e w1 ⟨rfl, hb1⟩
    have hz1 := hb1.size
    go_wp2_with fail
    refine (split_strs s w1 (by omega)).mono ?_
    rintro e w2 ⟨v, rfl, hS, hb2⟩
    have hz2 := hb2.size
    go_wp2_with fail
    have hst : (s ++ t).size = s.size + t.size := ByteArray.size_append
    refine (split_strs (s ++ t) w2 (by omega)).mono ?_
    rintro e w3 ⟨v3, rfl, hS3, hb3⟩
    have hz3 := hb3.size
    have HFin : Keep (∀ w', Below w3.heap.size w3 w' → Below w.heap.size w w') := ⟨fun w' h => ((hb1.trans (hb2.mono hz1)).trans (hb3.mono (by omega))).trans (h.mono (by omega))⟩
    have hA := hS.below hb3 (Nat.le_refl _)
    have hlen := chunkS_length s.data.toList
    have hlen3 := chunkS_length (s ++ t).data.toList
    rw [show s.data.toList.length = s.size by simp] at hlen
    rw [show (s ++ t).data.toList.length = (s ++ t).size by simp] at hlen3
    have HX : Keep (s.data.toList ≠ [] → ∃ a, (a ≠ [] ∧ a.length ≤ 96) ∧ chunkS s.data.toList = (chunkS s.data.toList).dropLast ++ [mkS a] ∧ chunkS (s ++ t).data.toList = (chunkS s.data.toList).dropLast ++ chunkS (a ++ t.data.toList)) := ⟨fun e => by
      rw [app_data]; exact chunkS_append e⟩
    clear hb1 hb2 hb3 hS
    by_cases h0 : s.data.toList = []
    · rw [h0, chunkS_nil] at hA
      obtain ⟨a, c, rfl, _⟩ := hA.nil_cases
      obtain ⟨a3, c3, rfl, _⟩ := hS3
      go_wp2
      go_ret
      exact ⟨rfl, HFin.out _ (Below.refl _ _)⟩
    · obtain ⟨a, ⟨ha, hal⟩, e1, e2⟩ := HX.out h0
      clear HX
      obtain ⟨d, hd⟩ : ∃ d, d = (chunkS s.data.toList).dropLast := ⟨_, rfl⟩
      obtain ⟨r, hr⟩ : ∃ r, r = chunkS (a ++ t.data.toList) := ⟨_, rfl⟩
      have hrne : r ≠ [] := by
        rw [hr, chunkS]; intro h
        exact ha (List.append_eq_nil_iff.1 (split_eq_nil.1 (List.map_eq_nil_iff.1 h))).1
      have hrf : (r.map (·.data.toList)).flatten = a ++ t.data.toList := by rw [hr]; exact chunkS_flatten _
      rw [← hd] at e1 e2
      rw [← hr] at e2
      rw [e1] at hA hlen
      rw [e2] at hS3 hlen3
      have hdl : (d ++ [mkS a]).length = d.length + 1 := by simp
      have hrl : 1 ≤ r.length := List.length_pos_iff.2 hrne
      obtain ⟨b, o, c, rfl, h1, h2, h3, h4⟩ := hA.cons_cases (by simp)
      obtain ⟨b', o', c', rfl, h1', h2', h3', h4'⟩ := hS3.cons_cases (by simp [hrne])
      have hm1 := h2
      have hm1' := h2'
      unfold maxLen at h2 h2'
      rw [hdl] at h1 ⊢
      have hdr : (d ++ r).length = d.length + r.length := by simp
      rw [hdr] at h1' ⊢
      have hcl : w3.cell? ⟨b, o + d.length, none⟩ = some (.string (mkS a)) := h4 _ _ (by simp)
      have hT1 : Strs w3 (.slice (some ⟨b, o, none⟩) d.length c) d := by
        have := Strs.take (m := d.length) (n := d.length) (l := d ++ [mkS a]) (by omega) hm1 h3 h4 rfl (by omega)
        rwa [List.take_left] at this
      have hT2 : Strs w3 (.slice (some ⟨b', o', none⟩) d.length c') d := by
        have := Strs.take (m := d.length) (n := d.length) (l := d ++ r) (by omega) hm1' h3' h4' rfl (by omega)
        rwa [List.take_left] at this
      have hT3 : Strs w3 (.slice (some ⟨b', o' + d.length, none⟩) r.length (c' - d.length)) r :=
        ⟨_, _, rfl, by omega, by omega, .inr ⟨b', o' + d.length, rfl, h3', fun i x hx => by rw [Nat.add_assoc]; exact h4' _ _ (by rw [List.getElem?_append_right (by omega), Nat.add_sub_cancel_left]; exact hx)⟩⟩
      clear hA hS3 h4 h4' e1 e2 hd hr hrne
      have HRF := Keep.mk hrf
      have HRL : Keep (r.length ≤ 140737488355328 ∧ (r.map (·.data.toList)).flatten.length ≤ 140737488355328) := ⟨by omega, by
        have ht0 : t.data.toList.length = t.size := by simp
        rw [hrf, List.length_append]; omega⟩
      clear hrf hdl hdr
      have hg : decide ((d.length : Int) < (d.length : Int) + (r.length : Int)) = true := by simp; omega
      go_wp2
      have i1 : (0 : Int) ≤ (d.length : Int) := Int.natCast_nonneg _
      have i2 : (d.length : Int) ≤ (c : Int) := by omega
      have i3 : (d.length : Int) ≤ (c' : Int) := by omega
      have i4 : (d.length : Int) ≤ (d.length : Int) + (r.length : Int) := by omega
      have i5 : (d.length : Int) < (d.length : Int) + 1 := by omega
      have i6 : ¬ c' = d.length := by omega
      go_region_held3 (fun w' => w'.cell? ⟨b, o + d.length, none⟩ = some (.string (mkS a)) ∧ Below w3.heap.size w3 w')
        (first | exact ⟨hcl, (Below.refl w3.heap.size w3).drew⟩ | exact ⟨hcl, Below.refl w3.heap.size w3⟩ | exact held_step h3 hb4 (by assumption) | assumption)
        (first
        | (go_at_call 12; refine (same_any _ _ d d _ ?_ ?_).mono ?_; (apply Strs.held hT1; assumption); (apply Strs.held hT2; assumption); rintro e w4 ⟨rfl, hb4⟩)
        | (go_at_call 15; refine (joinE_any _ r _ ?_ ?_ ?_).mono ?_; (apply Strs.held hT3; assumption); (exact HRL.out.1); (exact HRL.out.2); rintro e w5 ⟨rfl, hb4⟩)
        | (go_at_call 16; refine (hasPrefix_any _ _ _).mono ?_; rintro e w6 ⟨rfl, rfl⟩))
      go_wp2
      go_ret
      refine ⟨ret_bool ?_, ?_⟩
      · rw [data_mkS, data_mkS, HRF.out]
        exact hasPrefix_append _ _
      · refine HFin.out _ ?_
        rename_i hH
        exact hH.2

theorem ChunkerAppend_walk : LawWalk 7 Try.f7 := by
  intro H enc W base args ds ps hval hA hsz
  rw [Try.params7] at hA hval hsz
  obtain ⟨v0, vs0, d0, ds0, p0, q0, hargs, rfl, rfl, h0, r0⟩ := trodAll_cons hA
  obtain ⟨v1, vs1, d1, ds1, p1, q1, rfl, rfl, rfl, h1, r1⟩ := trodAll_cons r0
  obtain ⟨rfl, rfl, rfl⟩ := trodAll_nil r1
  obtain rfl : args = #[v0, v1] := by cases args; simp_all
  obtain ⟨s, rfl, rfl, rfl, hs⟩ := open_string Try.underlying9 (hval 0 9 v0 rfl rfl) h0
  obtain ⟨t, rfl, rfl, rfl, ht⟩ := open_string Try.underlying9 (hval 1 9 v1 rfl rfl) h1
  have hs' := sized_string hsz (j := 0) rfl rfl
  have ht' := sized_string hsz (j := 1) rfl rfl
  exact chunkerAppend_any s t W (by simpa using hs') (by simpa using ht')
end Go.Proofs.Ytflkmifcmaeccaa
namespace Go.Proofs.Ytflkmifcmaeccaa
open Go.ChangeShapes Go.WideShapes Go.ChangeAt Go.RowKit
set_option maxRecDepth 100000 in
theorem ChunkerAppend_lifted (os : Os) (started : os.Started) (H : Type) (enc : TypeId × Value → H) :
    ReturnsInHanded {} Try.checked os 7 .any (Rows.chunkerAppendSpec.pre6 enc Try.prog Try.f7 Rows.chunkerAppendRow.domain false) (Rows.chunkerAppendSpec.post enc Try.prog Try.f7 false true false false) := by
  refine returnsInHanded_of_change_sized (C := Try.checked) own started (by kernel_rfl) Try.func7
    (ChangeSpec.witness6 (enc := enc) (C := Try.checked) false ⟨#[], #[.string ⟨#[]⟩, .string ⟨#[]⟩], []⟩ 8 (by kernel_rfl) (by kernel_rfl) (by kernel_rfl) (by kernel_rfl)) ?_
  exact law_contract (by kernel_rfl) (by kernel_rfl) ⟨rfl, fun H ds h => by rw [Try.params7] at h; match ds, h with | [d0, d1], _ => rfl⟩ ChunkerAppend_walk
theorem ChunkerAppend_over : Rows.chunkerAppendRow.holds Try.pinned (OpenSpec.ofChange Rows.chunkerAppendSpec) :=
  OpenClaim.holds_of_wide 7 Try.f7 rfl rfl rfl rfl rfl rfl rfl ⟨rfl, rfl, rfl, rfl, rfl⟩ rfl rfl rfl rfl rfl (by kernel_rfl) Try.func7 (by kernel_rfl)
    (of_decide_eq_true (by kernel_rfl)) (by unfold Func.isWrapper; first | (rw [if_pos (by decide +kernel)]; kernel_rfl) | (rw [if_neg (by decide +kernel)]; exact ⟨rfl, rfl⟩))
    (fun os started H enc _ => ChunkerAppend_lifted os started H enc)
theorem ChunkerAppend_proved : Rows.ChunkerAppendSaid := ChunkerAppend_over
end Go.Proofs.Ytflkmifcmaeccaa
