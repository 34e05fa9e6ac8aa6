/- Find of the reference. No condition. -/
import Derived.Test.YtomlknjpaielgaaStoreBegin
namespace Go.Proofs.Ytomlknjpaielgaa
set_option maxRecDepth 100000
open Go.RowKit Go.Shelf Go.Proofs.Ytomlknjpaielgaa.Store

/-- What Find returns. -/
def Found (l : List Chk) (d : ByteArray) (e : Ending) : Prop := e = .returned (.tuple #[((find d l).map extA).getD (extA (0, 0, 0)), .bool (find d l).isSome])
theorem find_at {l : List Chk} {d : ByteArray} {k : Nat} {c : Chk} (h : find d (l.take k) = none) (hc : l[k]? = some c) : (c.1 = d → find d l = some c.2) ∧ (c.1 ≠ d → find d (l.take (k + 1)) = none) := by
  obtain ⟨hk, rfl⟩ := List.getElem?_eq_some_iff.1 hc
  constructor
  · intro e
    have h2 : l = l.take k ++ (l[k] :: l.drop (k + 1)) := by rw [← List.drop_eq_getElem_cons hk, List.take_append_drop]
    conv => lhs; rw [h2]
    rw [find_append, h]
    simp [find, e]
  · intro e
    rw [List.take_add_one, List.getElem?_eq_getElem hk, find_append, h]
    simp [find, e]
theorem ext_filled {g : Nat} {wd : World} {a b c x y z : Value} (h : Arr wd g 42 [a, b, c]) : Arr (((wd.setCell ⟨g, 0, none⟩ x).setCell ⟨g, 1, none⟩ y).setCell ⟨g, 2, none⟩ z) g 42 [x, y, z] := ((h.set 0 x).set 1 y).set 2 z
set_option maxHeartbeats 4000000 in
theorem refFind_any {w : World} {v : Value} {l : List Chk} {ses : Int} {st d : ByteArray} (h : Chks w v l) :
    Calls Try.prog 32 #[.agg #[v, .int .i64 ses, .string st], .string d] w fun e w' => Found l d e ∧ Below w.heap.size w w' := by
  obtain ⟨a, cap, rfl, hc1, hc2, hp⟩ := h.parts
  have HP := Keep.mk hp
  unfold maxLen at hc2
  clear h hp
  obtain ⟨wa, hwa⟩ : ∃ wa, wa = (w.alloc (.cells #[.slice a l.length cap, .int .i64 ses, .string st] 27)).alloc (.cells #[.int .i64 0, .int .i64 0, .int .i64 0] 42) := ⟨_, rfl⟩
  have hA1 : Keep (Arr wa w.heap.size 27 (storeCells (.slice a l.length cap) ses st)) := ⟨by rw [hwa]; exact (Arr.new w _ (storeCells (.slice a l.length cap) ses st)).alloc _⟩
  have hA2 : Keep (Arr wa (w.heap.size + 1) 42 [.int .i64 0, .int .i64 0, .int .i64 0]) := ⟨by
    have := Arr.new (w.alloc (.cells #[.slice a l.length cap, .int .i64 ses, .string st] 27)) 42 [.int .i64 0, .int .i64 0, .int .i64 0]
    rw [World.size_alloc] at this
    rw [hwa]; exact this⟩
  have hBa : Keep (Below w.heap.size w wa) := ⟨by rw [hwa]; exact ((Below.refl _ _).alloc (Nat.le_refl _) _).alloc (by simp) _⟩
  go_enter Try.func32, Try.ntmps32
  go_upto_region 1 with (fail)
  rw [← hwa]
  clear hwa
  have a0 := hA1.out.cell 0
  have b0 := hA2.out.cell 0
  have b1 := hA2.out.cell 1
  have b2 := hA2.out.cell 2
  have f0 := hA2.out.frozen 0
  have f1 := hA2.out.frozen 1
  have f2 := hA2.out.frozen 2
  have bl := hA2.out.lt
  simp only [storeCells, List.getElem?_cons_zero, List.getElem?_cons_succ] at a0 b0 b1 b2
  go_wp2_with fail
  go_loop [6] (fun i => ∃ k : Nat, k ≤ l.length ∧ i = .int .i64 k ∧ Keep (find d (l.take k) = none)) (fun i => l.length - (intOf i).toNat)
  case atStart => exact ⟨0, Nat.zero_le _, rfl, ⟨rfl⟩⟩
  case round =>
    obtain ⟨k, hk, rfl, HN⟩ := hrel
    by_cases hlt : k < l.length
    · obtain ⟨c, hc⟩ : ∃ c, l[k]? = some c := ⟨_, List.getElem?_eq_getElem hlt⟩
      obtain ⟨b, o, rfl, hb, x0, x1, x2, x3⟩ := HP.out k c hc
      have x0' := (hBa.out.cell (p := ⟨b, o + k * 4, none⟩) hb).trans x0
      have x1' := (hBa.out.cell (p := ⟨b, o + k * 4 + 1, none⟩) hb).trans x1
      have x2' := (hBa.out.cell (p := ⟨b, o + k * 4 + 2, none⟩) hb).trans x2
      have x3' := (hBa.out.cell (p := ⟨b, o + k * 4 + 3, none⟩) hb).trans x3
      have HF := Keep.mk (find_at HN.out hc)
      have k0 : (0 : Int) ≤ k := by omega
      have k1 : (k : Int) < l.length := by omega
      clear x0 x1 x2 x3 hc
      by_cases he : c.1 = d
      · have hes : (c.1.toList == d.toList) = true := by rw [toList_beq]; exact decide_eq_true he
        have HFS := Keep.mk (HF.out.1 he)
        clear he
        go_wp2_with fail
        have hE := ext_filled (x := .int .i64 (c.2.1)) (y := .int .i64 (c.2.2.1)) (z := .int .i64 (c.2.2.2)) hA2.out
        have c0 := hE.cell 0
        have c1 := hE.cell 1
        have c2 := hE.cell 2
        simp only [List.getElem?_cons_zero, List.getElem?_cons_succ] at c0 c1 c2
        have hB := ((hBa.out.setCell (p := ⟨w.heap.size + 1, 0, none⟩) (by show w.heap.size ≤ w.heap.size + 1; omega) (.int .i64 (c.2.1))).setCell (p := ⟨w.heap.size + 1, 1, none⟩) (by show w.heap.size ≤ w.heap.size + 1; omega) (.int .i64 (c.2.2.1))).setCell (p := ⟨w.heap.size + 1, 2, none⟩) (by show w.heap.size ≤ w.heap.size + 1; omega) (.int .i64 (c.2.2.2))
        clear hE
        generalize (((wa.setCell ⟨w.heap.size + 1, 0, none⟩ (.int .i64 (c.2.1))).setCell ⟨w.heap.size + 1, 1, none⟩ (.int .i64 (c.2.2.1))).setCell ⟨w.heap.size + 1, 2, none⟩ (.int .i64 (c.2.2.2))) = wf at *
        refine bodyPost_ret (v := .tuple #[.agg #[.int .i64 (c.2.1), .int .i64 (c.2.2.1), .int .i64 (c.2.2.2)], .bool true]) (by simp [results, Try.results32, go_sem, c0, c1, c2]) rfl ⟨?_, hB⟩
        unfold Found; rw [HFS.out]; rfl
      · have hes : (c.1.toList == d.toList) = false := by rw [toList_beq]; exact decide_eq_false he
        have HFS := Keep.mk (HF.out.2 he)
        clear he
        go_wp2_with fail
        go_round
        case rel => exact ⟨k + 1, by omega, by go_num, HFS⟩
        case measure => simp [intOf]; omega
    · have hkl : k = l.length := by omega
      subst hkl
      have hn := HN.out
      rw [List.take_length] at hn
      have HN2 := Keep.mk hn
      clear hn
      go_wp2_with fail
      have hE := ext_filled (x := .int .i64 (0)) (y := .int .i64 (0)) (z := .int .i64 (0)) hA2.out
      have c0 := hE.cell 0
      have c1 := hE.cell 1
      have c2 := hE.cell 2
      simp only [List.getElem?_cons_zero, List.getElem?_cons_succ] at c0 c1 c2
      have hB := ((hBa.out.setCell (p := ⟨w.heap.size + 1, 0, none⟩) (by show w.heap.size ≤ w.heap.size + 1; omega) (.int .i64 (0))).setCell (p := ⟨w.heap.size + 1, 1, none⟩) (by show w.heap.size ≤ w.heap.size + 1; omega) (.int .i64 (0))).setCell (p := ⟨w.heap.size + 1, 2, none⟩) (by show w.heap.size ≤ w.heap.size + 1; omega) (.int .i64 (0))
      clear hE
      generalize (((wa.setCell ⟨w.heap.size + 1, 0, none⟩ (.int .i64 (0))).setCell ⟨w.heap.size + 1, 1, none⟩ (.int .i64 (0))).setCell ⟨w.heap.size + 1, 2, none⟩ (.int .i64 (0))) = wf at *
      refine bodyPost_ret (v := .tuple #[.agg #[.int .i64 (0), .int .i64 (0), .int .i64 (0)], .bool false]) (by simp [results, Try.results32, go_sem, c0, c1, c2]) rfl ⟨?_, hB⟩
      unfold Found; rw [HN2.out]; rfl
end Go.Proofs.Ytomlknjpaielgaa
