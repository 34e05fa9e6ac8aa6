/- Ahead of machine.execute. No condition. -/
import Derived.Test.YtojgopbaiflfgaaGreatDoorTpMachPush
import Derived.Test.YtojgopbaiflfgaaGreatDoorRegInvIn
import Derived.BigRegion
import Derived.Deep.DeepCutAuto
import Derived.Deep.CutBlock
import Derived.Deep.CutRange
import Derived.Deep.QuietTactic
import Derived.BigQuiet
namespace Go.Proofs.YtojgopbaiflfgaaGreatDoor
set_option maxRecDepth 100000
open Go.RowKit Go.Shelf Go.Proofs.YtojgopbaiflfgaaGreatDoor.B2
section
variable {w : World} {base B M G k : Nat} {s : St} {dv cv iv ov : Value}
/-- The top lies in memory. -/
theorem MAt.top (h : MAt w base B M G s k dv cv iv ov) {v : W} {d : List W} (hl : s.data = v :: d) : ∃ g cap, dv = .slice (some ⟨g, 0, none⟩) (d.length + 1) cap ∧ d.length + 1 ≤ cap ∧ cap ≤ maxLen ∧ g < w.heap.size ∧ w.cell? ⟨g, d.length, none⟩ = some (.int .u32 (W32 v)) ∧ w.frozen? ⟨g, d.length, none⟩ = false ∧ g ≠ B ∧ g ≠ M ∧ base ≤ g := by
  have hd := h.data
  rw [hl] at hd
  obtain ⟨hd1, ⟨rfl, hd2⟩ | ⟨g, cap, cur, rfl, hg1, hg2, hg3, hg4, hg5, hg6⟩⟩ := hd
  · simp at hd2
  · refine ⟨g, cap, rfl, hg3, hg4, (Array.getElem?_eq_some_iff.1 hg2).1, ?_, by simp [World.frozen?, hg2], fun e => ?_, fun e => h.dM (by rw [e]; rfl), hg1⟩
    · have e : (wvs (v :: d).reverse)[d.length]? = some (.int .u32 (W32 v)) := by
        rw [List.reverse_cons]
        simp [wvs, wv]
      rw [← hg6, List.getElem?_take] at e
      rw [if_pos (by simp)] at e
      simp only [World.cell?, hg2]
      simpa using e
    · rw [e, h.box] at hg2
      simp at hg2
theorem MAt.topped (h : MAt w base B M G s k dv cv iv ov) {v : W} {d : List W} (hl : s.data = v :: d) (u : W) {g cap : Nat} (hdv : dv = .slice (some ⟨g, 0, none⟩) (d.length + 1) cap) :
    MAt (w.setCell ⟨g, d.length, none⟩ (.int .u32 (W32 u))) base B M G { s with data := u :: d } k dv cv iv ov ∧ Mw base w (w.setCell ⟨g, d.length, none⟩ (.int .u32 (W32 u))) := by
  have hd := h.data
  rw [hl] at hd
  subst hdv
  have hd0 := hd
  obtain ⟨hd1, ⟨e, hd2⟩ | ⟨g', cap', cur, e, hg1, hg2, hg3, hg4, hg5, hg6⟩⟩ := hd
  · cases e
  · simp only [Value.slice.injEq, Option.some.injEq, Addr.mk.injEq, and_true] at e
    obtain ⟨rfl, -, rfl⟩ := e
    have hg := setCell_grown w ⟨g, d.length, none⟩ (.int .u32 (W32 u))
    obtain ⟨r1, r2, r3, r4, r5⟩ := h.rest h.data (.inl rfl) h.dM hg
    refine ⟨⟨r1, r2, ?_, row_kept h.calls hg (fun r e => h.dc r e), r3, h.inpb, row_kept h.out hg (fun r e hr => ?_), r4, h.bB, h.bM, h.dM, h.cM, h.dc, by have := h.d256; rw [hl] at this; exact this, h.c64, h.o20⟩, r5⟩
    · refine ⟨by simp [wvs], .inr ⟨g, cap, _, rfl, hg1, heap_setCell_same w g d.length _ _ _ hg2, hg3, hg4, by simpa using hg5, ?_⟩⟩
      rw [List.reverse_cons] at hg6 ⊢
      have hlen : cur.size = cap := by omega
      simp only [Array.toList_setIfInBounds, List.length_cons, Nat.mul_one, wvs, List.map_append, List.map_cons, List.map_nil] at hg6 ⊢
      rw [List.take_set, hg6, List.set_append_right _ _ (by simp)]
      simp [wv]
    · obtain ⟨c1, h1, _⟩ := row_block h.data e
      obtain ⟨c2, h2, _⟩ := row_block h.out hr
      rw [h1] at h2
      simp at h2
theorem MAt.drew (h : MAt w base B M G s k dv cv iv ov) : MAt w.drew base B M G s k dv cv iv ov := h.below (Below.refl _ _).drew
theorem Mw.drew (base : Nat) (w : World) : Mw base w w.drew := Mw.of_below (Below.refl _ _).drew
end
theorem row_top {w : World} {base : Nat} {dv : Value} {v : W} {d : List W} (hd : w.ownsRow base 29 1 dv (v :: d).length (wvs (v :: d).reverse)) : ∃ g cap, dv = .slice (some ⟨g, 0, none⟩) (d.length + 1) cap ∧ d.length + 1 ≤ cap ∧ cap ≤ maxLen ∧ g < w.heap.size ∧ w.cell? ⟨g, d.length, none⟩ = some (.int .u32 (W32 v)) ∧ w.ownsRow base 29 1 (.slice (some ⟨g, 0, none⟩) d.length cap) d.length (wvs d.reverse) := by
  obtain ⟨hd1, ⟨rfl, hd2⟩ | ⟨g, cap, cur, rfl, hg1, hg2, hg3, hg4, hg5, hg6⟩⟩ := hd
  · simp at hd2
  · have hlen : (v :: d).length = d.length + 1 := rfl
    refine ⟨g, cap, rfl, hg3, hg4, (Array.getElem?_eq_some_iff.1 hg2).1, ?_, by simp [wvs], .inr ⟨g, cap, cur, rfl, hg1, hg2, by omega, hg4, hg5, ?_⟩⟩
    · have e : (wvs (v :: d).reverse)[d.length]? = some (.int .u32 (W32 v)) := by
        rw [List.reverse_cons]
        simp [wvs, wv]
      rw [← hg6, List.getElem?_take] at e
      rw [if_pos (by simp)] at e
      simp only [World.cell?, hg2]
      simpa using e
    · have := congrArg (List.take (d.length * 1)) hg6
      rw [List.take_take, List.reverse_cons] at this
      rw [show min (d.length * 1) ((v :: d).length * 1) = d.length * 1 by simp] at this
      rw [this]
      simp [wvs]
theorem slc_tail {w : World} {iv : Value} {x : W} {l : List W} (h : Slc w 1 iv (x :: l).length (wvs (x :: l))) : ∃ b o cap, iv = .slice (some ⟨b, o, none⟩) (l.length + 1) cap ∧ l.length + 1 ≤ cap ∧ cap ≤ maxLen ∧ b < w.heap.size ∧ w.cell? ⟨b, o, none⟩ = some (.int .u32 (W32 x)) ∧ Slc w 1 (.slice (if cap = 1 then some ⟨b, o, none⟩ else some ⟨b, o + 1, none⟩) l.length (cap - 1)) l.length (wvs l) := by
  obtain ⟨a, cap, rfl, h1, h2, h3, h4 | ⟨b, o, rfl, hlt, hc⟩⟩ := h
  · simp at h4
  · have hlen : (x :: l).length = l.length + 1 := rfl
    refine ⟨b, o, cap, rfl, h1, h2, hlt, hc 0 _ rfl, _, _, rfl, by omega, by omega, by simp [wvs], ?_⟩
    by_cases hcap : cap = 1
    · left; omega
    · right
      rw [if_neg hcap]
      refine ⟨b, o + 1, rfl, hlt, fun j u hu => ?_⟩
      rw [Nat.add_assoc, Nat.add_comm 1 j]
      exact hc (j + 1) u (by simpa [wvs] using hu)
theorem mul_lit (t : W) (n : Nat) : IntKind.u32.wrap (W32 t * n) = W32 (t * BitVec.ofNat 32 n) := by
  rw [← mul_W32, IntKind.wrap_u32, IntKind.wrap_u32]
  unfold W32
  rw [BitVec.toNat_ofNat, show ((n % 2 ^ 32 : Nat) : Int) = (n : Int) % 4294967296 by simp]
  rw [Int.mul_emod, Int.mul_emod (t.toNat : Int) ((n : Int) % 4294967296), Int.emod_emod_of_dvd _ (Int.dvd_refl _)]
theorem add_lit (t : W) (n : Nat) : IntKind.u32.wrap (W32 t + n) = W32 (t + BitVec.ofNat 32 n) := by
  rw [← add_W32, IntKind.wrap_u32, IntKind.wrap_u32]
  unfold W32
  rw [BitVec.toNat_ofNat, show ((n % 2 ^ 32 : Nat) : Int) = (n : Int) % 4294967296 by simp]
  omega
theorem sub_lit (t : W) (n : Nat) : IntKind.u32.wrap (W32 t - n) = W32 (t - BitVec.ofNat 32 n) := by
  rw [← sub_W32, IntKind.wrap_u32, IntKind.wrap_u32]
  unfold W32
  rw [BitVec.toNat_ofNat, show ((n % 2 ^ 32 : Nat) : Int) = (n : Int) % 4294967296 by simp]
  omega
end Go.Proofs.YtojgopbaiflfgaaGreatDoor
