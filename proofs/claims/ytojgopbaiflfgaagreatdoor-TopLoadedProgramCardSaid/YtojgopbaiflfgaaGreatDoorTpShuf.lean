/- steletop.shuffled. Condition: bounds on lengths. -/
import Derived.Test.YtojgopbaiflfgaaGreatDoorStrOwn
import Derived.BigRegion
import Derived.Deep.Cut
import Derived.Deep.DeepCutAuto
namespace Go.Proofs.YtojgopbaiflfgaaGreatDoor
set_option maxRecDepth 100000
open Go.RowKit Go.Shelf

def swp {α : Type} (d : α) (l : List α) (i j : Nat) : List α := (l.set i (l.getD j d)).set j (l.getD i d)
theorem swp_length {α : Type} (d : α) (l : List α) (i j : Nat) : (swp d l i j).length = l.length := by simp [swp]
theorem swp_get {α : Type} {d : α} {l : List α} {i j : Nat} (hi : i < l.length) (hj : j < l.length) (k : Nat) : (swp d l i j)[k]? = if k = j then l[i]? else if k = i then l[j]? else l[k]? := by
  unfold swp
  rw [List.getElem?_set, List.getElem?_set]
  simp only [List.length_set, List.getD_eq_getElem?_getD]
  by_cases h1 : j = k
  · subst h1; simp [hi, hj]
  · have h1' : ¬ k = j := fun h => h1 h.symm
    by_cases h2 : i = k
    · subst h2; simp [h1, h1', hi, hj]
    · have h2' : ¬ k = i := fun h => h2 h.symm
      simp [h1, h1', h2, h2']
theorem swp_map {α β : Type} {d : α} {d' : β} (f : α → β) {l : List α} {i j : Nat} (hi : i < l.length) (hj : j < l.length) : (swp d l i j).map f = swp d' (l.map f) i j := by
  apply List.ext_getElem?
  intro k
  rw [List.getElem?_map, swp_get hi hj, swp_get (by simpa using hi) (by simpa using hj)]
  simp only [List.getElem?_map]
  split
  · rfl
  · split <;> rfl
theorem swp_perm {α : Type} (d : α) {l : List α} {i j : Nat} (hi : i < l.length) (hj : j < l.length) : (swp d l i j).Perm l := by
  have h := List.set_set_perm hi hj
  unfold swp
  rw [List.getD_eq_getElem?_getD, List.getD_eq_getElem?_getD, List.getElem?_eq_getElem hi, List.getElem?_eq_getElem hj]
  exact h
/-- The exchange, as a walk leaves it. -/
theorem ownsRow_swp {w : World} {base g n cap : Nat} {e : TypeId} {xs : List Value} {i j : Nat} {u v : Value} (h : w.ownsRow base e 1 (.slice (some ⟨g, 0, none⟩) n cap) n xs) (hu : xs[j]? = some u) (hv : xs[i]? = some v) :
    ((w.setCell ⟨g, i, none⟩ u).setCell ⟨g, j, none⟩ v).ownsRow base e 1 (.slice (some ⟨g, 0, none⟩) n cap) n (swp undef xs i j) ∧ Below base w ((w.setCell ⟨g, i, none⟩ u).setCell ⟨g, j, none⟩ v) := by
  have hg := (h.lt g rfl).1
  have h1 := (h.stored i u).1
  have h2 := (h1.stored j v).1
  refine ⟨?_, ((Below.refl _ _).setCell (p := ⟨g, i, none⟩) hg _).setCell (p := ⟨g, j, none⟩) hg _⟩
  unfold swp
  rw [List.getD_eq_getElem?_getD, List.getD_eq_getElem?_getD, hu, hv]
  exact h2
theorem ownsRow_lead {w : World} {base size n : Nat} {e : TypeId} {v : Value} {xs : List Value} (h : w.ownsRow base e size v n xs) (hn : 0 < n) : ∃ g cap, v = .slice (some ⟨g, 0, none⟩) n cap ∧ n ≤ cap ∧ cap ≤ maxLen := by
  obtain ⟨_, ⟨rfl, h0⟩ | ⟨g, cap, cur, rfl, _, _, h1, h2, _⟩⟩ := h
  · omega
  · exact ⟨g, cap, rfl, h1, h2⟩
/-- A slice of small numbers. -/
def NumsIn (w : World) (k : IntKind) (v : Value) (n : Nat) : Prop :=
  ∃ a cap, v = .slice a n cap ∧ n ≤ cap ∧ cap ≤ maxLen ∧ (n = 0 ∨ ∃ b o, a = some ⟨b, o, none⟩ ∧ b < w.heap.size ∧ ∀ i, i < n → ∃ x : Nat, x < 65536 ∧ w.cell? ⟨b, o + i, none⟩ = some (.int k (x : Int)))
theorem slcM_made {w : World} {t : TypeId} {size n : Nat} (xs : List Value) (hn : n ≤ maxLen) (hl : xs.length = n * size) : Slc (w.alloc (.cells xs.toArray t)) size (.slice (some ⟨w.heap.size, 0, none⟩) n n) n xs := by
  refine ⟨_, _, rfl, Nat.le_refl _, hn, hl, .inr ⟨w.heap.size, 0, rfl, by simp, fun j u hu => ?_⟩⟩
  have := heap_alloc_new w (.cells xs.toArray t)
  simp only [World.cell?, this, Nat.zero_add]
  simpa using hu
def celX (strip : Nat → ByteArray) (idx : List Nat) : List Value := strCells (idx.map strip)
theorem celX_append (strip : Nat → ByteArray) (a b : List Nat) : celX strip (a ++ b) = celX strip a ++ celX strip b := by simp [celX, strCells]
theorem celX_get (strip : Nat → ByteArray) (a : List Nat) (i : Nat) (h : i < a.length) : (celX strip a)[i]? = some (.string (strip a[i])) := by simp [celX, strCells, h]
theorem celX_swp (strip : Nat → ByteArray) {a : List Nat} {i j : Nat} (hi : i < a.length) (hj : j < a.length) : celX strip (swp 0 a i j) = swp undef (celX strip a) i j := by
  unfold celX strCells
  rw [List.map_map, List.map_map, swp_map (d' := undef) _ hi hj]
theorem NumsIn.below {w w' : World} {k : IntKind} {v : Value} {n : Nat} (h : NumsIn w k v n) (hb : Below w.heap.size w w') : NumsIn w' k v n := by
  obtain ⟨a, cap, rfl, h1, h2, h3⟩ := h
  refine ⟨a, cap, rfl, h1, h2, h3.imp id ?_⟩
  rintro ⟨b, o, rfl, hlt, hc⟩
  refine ⟨b, o, rfl, Nat.lt_of_lt_of_le hlt hb.size, fun i hi => ?_⟩
  obtain ⟨x, hx, hxc⟩ := hc i hi
  exact ⟨x, hx, (hb.cell (p := ⟨b, o + i, none⟩) hlt).trans hxc⟩
set_option maxHeartbeats 8000000 in
theorem shuffled_any {w : World} {v bv : Value} (strip : Nat → ByteArray) (idx : List Nat) (n : Nat) (hv : Strs w v (idx.map strip)) (hbv : NumsIn w .u16 bv n) (hl : idx.length ≤ 100) (hn : n ≤ 50) :
    Calls Tryz.prog 6 #[v, bv] w fun e w' => ∃ (v' : Value) (idx' : List Nat), e = .returned v' ∧ OwnStrs w.heap.size w' v' (idx'.map strip) ∧ idx'.length ≤ 150 ∧ (∀ i, i ∈ idx' ↔ i ∈ idx) ∧ Below w.heap.size w w' := by
  obtain ⟨i0, hi, hz0, hz1, hz2⟩ := info_parts Tryz.infoStrS
  obtain ⟨va, vc, hva, hv1, hv2, hv3⟩ := id hv
  rw [List.length_map] at hva hv1
  subst hva
  have HV := Keep.mk hv
  obtain ⟨ba, bc, rfl, hb1, hb2, hb3⟩ := hbv
  have HN := Keep.mk hb3
  clear hb3 hv3 hv
  have hbz : Below w.heap.size w (w.alloc (.cells #[] 9)) := (Below.refl _ _).alloc (Nat.le_refl _) _
  have h0 : OwnStrs w.heap.size (w.alloc (.cells #[] 9)) (.slice (some ⟨w.heap.size, 0, none⟩) 0 0) [] := World.ownsRow_lit w #[] 0 (Nat.le_refl _) (by decide) rfl
  have HZ := Keep.mk hbz
  have H0 := Keep.mk h0
  have HV1 := Keep.mk (HV.out.below hbz (Nat.le_refl _))
  have HLN : Keep ((idx.map strip).length = idx.length) := ⟨by simp⟩
  have hsz : w.heap.size ≤ (w.alloc (.cells #[] 9)).heap.size := hbz.size
  clear hbz h0
  go_enter Tryz.func6, Tryz.ntmps6
  go_wp2_with (at_builtin; go_must (refine wpList_append_ownstrs rfl _ _ rfl (base := w.heap.size) rfl H0.out rfl HV1.out (by rw [HLN.out]; simp; omega) hsz ?_); intro v2 w2 hown2 hb2; have HO2 := Keep.mk hown2; have HB2 := Keep.mk (HZ.out.trans hb2); clear hown2 hb2)
  have HO3 : Keep (w2.ownsRow w.heap.size 9 1 v2 idx.length (celX strip idx)) := ⟨by have := HO2.out; rw [List.nil_append] at this; unfold OwnStrs at this; rw [HLN.out] at this; exact this⟩
  clear HO2 HV HV1 H0 HZ hsz HLN hv1 hv2
  go_loopw [14, 5, 6, 7, 8] (fun i v _ _ _ wr => ∃ (k m : Nat) (idx' : List Nat), i = .int .i64 k ∧ k ≤ n ∧ m ≤ 100 + k ∧ Keep (idx'.length = m) ∧ Keep (∀ i, i ∈ idx' ↔ i ∈ idx) ∧ Keep (wr.ownsRow w.heap.size 9 1 v m (celX strip idx')) ∧ Keep (Below w.heap.size w wr)) (fun i _ _ _ _ _ => n - (intOf i).toNat)
  case atStart => exact ⟨0, idx.length, idx, rfl, Nat.zero_le _, by omega, ⟨rfl⟩, ⟨fun _ => Iff.rfl⟩, HO3, HB2⟩
  case round =>
    obtain ⟨k, m, idx', rfl, hk, hm, HM, HI, HO, HB⟩ := hrel
    by_cases hlt : k < n
    · have k0 : (k : Int) < n := by omega
      obtain ⟨b, o, rfl, hb, x, hx, hc⟩ : ∃ b o, ba = some ⟨b, o, none⟩ ∧ b < w.heap.size ∧ ∃ x : Nat, x < 65536 ∧ w.cell? ⟨b, o + k, none⟩ = some (.int .u16 (x : Int)) := by
        rcases HN.out with h | ⟨b, o, h1, h2, h3⟩
        · omega
        · exact ⟨b, o, h1, h2, h3 k hlt⟩
      have c0 := (HB.out.cell (p := ⟨b, o + k, none⟩) hb).trans hc
      have cl : b < wr.heap.size := Nat.lt_of_lt_of_le hb HB.out.size
      clear HN hc
      by_cases hm0 : m = 0
      · subst hm0
        obtain ⟨g, gc, rfl⟩ := ownsRow_slice HO.out
        go_wp2_with fail
        go_ret
        exact ⟨_, idx', rfl, by unfold OwnStrs; rw [List.length_map, HM.out]; exact HO.out, by rw [HM.out]; omega, HI.out, HB.out⟩
      · have hpos : 0 < m := by omega
        obtain ⟨g, gc, rfl, hg1, hg2⟩ := ownsRow_lead HO.out hpos
        have hmz : (m : Int) ≠ 0 := by omega
        have hz' : ((m : Int) == 0) = false := by rw [beq_eq_false_iff_ne]; omega
        have hA : (x : Int).tmod (m : Int) = ((x % m : Nat) : Int) := rfl
        have hAl : x % m < m := Nat.mod_lt _ hpos
        have hxw : IntKind.i64.wrap (x : Int) = x := IntWalk.i64_in _ (by omega)
        generalize x % m = A at *
        have hAw : IntKind.i64.wrap (A : Int) = A := IntWalk.i64_in _ (by omega)
        have hA0 : (A : Int) < (m : Int) := by omega
        have h3 : (k : Int).tmod 3 = ((k % 3 : Nat) : Int) := rfl
        have h3l : k % 3 < 3 := Nat.mod_lt _ (by decide)
        generalize k % 3 = q at *
        have hqw : IntKind.i64.wrap (q : Int) = q := IntWalk.i64_in _ (by omega)
        have HAL : Keep (A < m) := ⟨hAl⟩
        by_cases hq : q = 2
        · subst hq
          have hA' : A < idx'.length := by rw [HM.out]; exact hAl
          have cA : wr.cell? ⟨g, A, none⟩ = some (.string (strip idx'[A])) := by
            rw [HO.out.cellAt A (by omega)]
            exact celX_get strip idx' A hA'
          have gl := (HO.out.lt g rfl).2
          have hN := HB.out.size
          have HE : Keep (idx'[A] ∈ idx') := ⟨List.getElem_mem _⟩
          generalize idx'[A] = E at *
          clear hA'
          have HX : Keep (celX strip (idx' ++ [E]) = celX strip idx' ++ [.string (strip E)]) := ⟨by rw [celX_append]; rfl⟩
          unfold maxLen at hg2
          have hAc : (A : Int) < (gc : Int) := by omega
          go_upto_region 8 with (fail)
          go_wp2_with (at_builtin; go_must (refine wpList_append_slc rfl _ _ 25 rfl w.heap.size 9 i0 (.string ⟨#[]⟩) 1 16 Tryz.underlying25 hi hz0 hz1 hz2 rfl (by decide) _ m (celX strip idx') rfl (World.ownsRow.alloc HO.out _) _ 1 [.string (strip E)] rfl (slcM_made (t := 9) [.string (strip E)] (by decide) rfl) (by simp [Value.oneCell']) (by unfold maxLen; omega) (by omega) (by simp; omega) ?_); intro v9 w9 hown9 hg9 hv9; have H9 := Keep.mk (And.intro hown9 (below_append (HB.out.alloc hN _) (by simp; omega) (World.ownsRow.alloc HO.out _) (Nat.le_refl _) hg9)); clear hown9 hg9 hv9)
          go_roundw
          case rel => exact ⟨k + 1, m + 1, idx' ++ [E], by push_cast; rfl, by omega, by omega, ⟨by rw [List.length_append, HM.out]; rfl⟩, ⟨fun i => by rw [List.mem_append, List.mem_singleton, ← HI.out i]; exact ⟨fun h => h.elim id fun h => by rw [h]; exact HE.out, .inl⟩⟩, ⟨by rw [HX.out]; exact H9.out.1⟩, ⟨H9.out.2⟩⟩
          case measure => simp only [intOf]; omega
        · have hqf : ((q : Int) == 2) = false := by rw [beq_eq_false_iff_ne]; omega
          have hqn : (q : Int) ≠ 2 := by omega
          have hA' : A < idx'.length := by rw [HM.out]; exact hAl
          have h0' : 0 < idx'.length := by rw [HM.out]; exact hpos
          have HXA : Keep ((celX strip idx')[A]? = some (.string (strip idx'[A]))) := ⟨celX_get strip idx' A hA'⟩
          have HX0 : Keep ((celX strip idx')[0]? = some (.string (strip idx'[0]))) := ⟨celX_get strip idx' 0 h0'⟩
          have HSW : Keep (celX strip (swp 0 idx' A 0) = swp undef (celX strip idx') A 0 ∧ (swp 0 idx' A 0).length = idx'.length ∧ ∀ i, i ∈ swp 0 idx' A 0 ↔ i ∈ idx') := ⟨celX_swp strip hA' h0', swp_length _ _ _ _, fun i => (swp_perm 0 hA' h0').mem_iff⟩
          have cA : wr.cell? ⟨g, A, none⟩ = some (.string (strip idx'[A])) := by
            rw [HO.out.cellAt A (by omega)]
            exact HXA.out
          have cZ : wr.cell? ⟨g, 0, none⟩ = some (.string (strip idx'[0])) := by
            rw [HO.out.cellAt 0 (by omega)]
            exact HX0.out
          have gl := (HO.out.lt g rfl).2
          have hN := HB.out.size
          have hfA := HO.out.frozenAt A
          have hf0 := HO.out.frozenAt 0
          generalize strip idx'[A] = sA at *
          generalize strip idx'[0] = s0 at *
          unfold maxLen at hg2
          have hAc : (A : Int) < (gc : Int) := by omega
          clear hA' h0'
          go_upto_region 9 with (fail)
          by_cases hA0' : A = 0
          · subst hA0'
            obtain rfl : sA = s0 := by have := HX0.out.symm.trans HXA.out; simpa using this.symm
            go_region
            have hs := ownsRow_swp HO.out HX0.out HXA.out
            have HS := Keep.mk (And.intro hs.1.drew (HB.out.trans hs.2).drew)
            clear hs c0 cl cA cZ hfA hf0 gl hN HO HB
            generalize (((wr.setCell ⟨g, 0, none⟩ (.string sA)).setCell ⟨g, 0, none⟩ (.string sA)).drew) = w4 at *
            go_wp2_with fail
            go_roundw
            case rel => exact ⟨k + 1, m, swp 0 idx' 0 0, by push_cast; rfl, by omega, by omega, ⟨by rw [HSW.out.2.1]; exact HM.out⟩, ⟨fun i => (HSW.out.2.2 i).trans (HI.out i)⟩, ⟨by rw [HSW.out.1]; exact HS.out.1⟩, ⟨HS.out.2⟩⟩
            case measure => simp only [intOf]; omega
          · go_region
            have hs := ownsRow_swp HO.out HX0.out HXA.out
            have HS := Keep.mk (And.intro hs.1.drew (HB.out.trans hs.2).drew)
            clear hs c0 cl cA cZ hfA hf0 gl hN HO HB
            generalize (((wr.setCell ⟨g, A, none⟩ (.string s0)).setCell ⟨g, 0, none⟩ (.string sA)).drew) = w4 at *
            go_wp2_with fail
            go_roundw
            case rel => exact ⟨k + 1, m, swp 0 idx' A 0, by push_cast; rfl, by omega, by omega, ⟨by rw [HSW.out.2.1]; exact HM.out⟩, ⟨fun i => (HSW.out.2.2 i).trans (HI.out i)⟩, ⟨by rw [HSW.out.1]; exact HS.out.1⟩, ⟨HS.out.2⟩⟩
            case measure => simp only [intOf]; omega
    · obtain rfl : k = n := by omega
      obtain ⟨g, gc, rfl⟩ := ownsRow_slice HO.out
      go_wp2_with fail
      go_ret
      exact ⟨_, idx', rfl, by unfold OwnStrs; rw [List.length_map, HM.out]; exact HO.out, by rw [HM.out]; omega, HI.out, HB.out⟩
end Go.Proofs.YtojgopbaiflfgaaGreatDoor
