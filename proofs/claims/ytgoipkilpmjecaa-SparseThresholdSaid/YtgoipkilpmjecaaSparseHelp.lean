/- The statements' own helpers: awake holds; content gives a text of at most 2000 bytes, or none. Condition: each part's own size. -/
import Derived.Test.YtgoipkilpmjecaaSparseRef
import Derived.Test.YtgoipkilpmjecaaRepeat
import Derived.Deep.RegionHeld3
namespace Go.Proofs.Ytgoipkilpmjecaa
open Go.RowKit Go.Shelf Go.Proofs.Ytgoipkilpmjecaa.Sparse

theorem held_on {w W W' : World} (hb : Below W.heap.size W W') (h : Below w.heap.size w W) : Below w.heap.size w W' := h.trans (hb.mono h.size)
theorem segs_awake : segs (mkS ([97, 98] ++ List.replicate 40 0 ++ [99])).data.toList = [(0, [97, 98]), (40, []), (0, [99])] := by
  rw [data_mkS]; decide +kernel

theorem Segs.made (w : World) (l : List Seg) (t : TypeId) (h : l.length ≤ maxLen) : Segs (w.alloc (.cells (segCells l).toArray t)) (.slice (some ⟨w.heap.size, 0, none⟩) l.length l.length) l := by
  refine ⟨_, _, rfl, Nat.le_refl _, h, .inr ⟨w.heap.size, 0, rfl, by simp, fun i s hi => ?_⟩⟩
  obtain ⟨c1, c2⟩ := segCells_get l i s hi
  have e : (w.alloc (.cells (segCells l).toArray t)).heap[w.heap.size]? = some (.cells (segCells l).toArray t) := World.alloc_heap_new w _
  constructor
  · rw [World.cell?]; simp only [e, Nat.zero_add]; simpa using c1
  · rw [World.cell?]; simp only [e, Nat.zero_add]; simpa using c2

set_option maxHeartbeats 1000000 in
theorem awake_any (w : World) : Calls Try.prog 12 #[] w fun e w' => e = .returned (.bool true) ∧ Below w.heap.size w w' := by
  go_enter Try.func12, Try.ntmps12
  go_wp2_with fail
  refine (repeat_any ⟨#[0]⟩ 40 w (by decide) (by decide) (by decide)).mono ?_
  rintro e w1 ⟨rfl, hb1⟩
  have hz1 := hb1.size
  obtain ⟨r, hr⟩ : ∃ r, r = mkS (Lib.repeatL (⟨#[0]⟩ : ByteArray).data.toList (40 : Int).toNat) := ⟨_, rfl⟩
  have hrz : r.size = 40 := by rw [hr, size_mkS, Lib.repeatL_length]; rfl
  have hcat1 := fun (wx : World) => run_string_add_sum (P := Try.prog) wx ⟨#[97, 98]⟩ r (by rw [hrz]; decide)
  have hz2 : ((⟨#[97, 98]⟩ : ByteArray) ++ r).size = 42 := by rw [ByteArray.size_append, hrz]; rfl
  have hcat2 := fun (wx : World) => run_string_add_sum (P := Try.prog) wx (⟨#[97, 98]⟩ ++ r) ⟨#[99]⟩ (by rw [hz2]; decide)
  have hz3 : ((⟨#[97, 98]⟩ : ByteArray) ++ r ++ ⟨#[99]⟩).size = 43 := by rw [ByteArray.size_append, hz2]; rfl
  have HS : Keep (segs ((⟨#[97, 98]⟩ : ByteArray) ++ r ++ ⟨#[99]⟩).data.toList = [(0, [97, 98]), (40, []), (0, [99])]) := ⟨by
    have : ((⟨#[97, 98]⟩ : ByteArray) ++ r ++ ⟨#[99]⟩).data.toList = (mkS ([97, 98] ++ List.replicate 40 0 ++ [99])).data.toList := by
      rw [hr, data_mkS]
      simp [mkS, repeatL_zero]
    rw [this]; exact segs_awake⟩
  rw [← hr]
  clear hr hrz hz2
  generalize hx : (⟨#[97, 98]⟩ : ByteArray) ++ r ++ ⟨#[99]⟩ = x at *
  have hxz : x.size ≤ 1000000 := by omega
  clear hx hz3
  go_wp2_with fail
  refine (segs_strs x w1 hxz).mono ?_
  rintro e w2 ⟨v, rfl, hS, hb2⟩
  rw [HS.out] at hS
  have hz2 := hb2.size
  go_wp2_with fail
  refine (segSame_any v _ _ [(0, [97, 98]), (40, []), (0, [99])] _ (hS.below ((Below.refl _ _).alloc (Nat.le_refl _) _) (Nat.le_refl _)) (Segs.made w2 [(0, [97, 98]), (40, []), (0, [99])] 45 (by decide))).mono ?_
  rintro e w3 ⟨rfl, hb3⟩
  go_wp2
  go_ret
  refine ⟨ret_bool (by decide), ?_⟩
  exact (hb1.trans (hb2.mono hz1)).trans (((Below.refl w.heap.size w2).alloc (by omega) _).trans (hb3.mono (by simp; omega)))

/-- A slice of parts: data, and the number of zeros behind it. -/
def PartsIn (w : World) (v : Value) (l : List (ByteArray × Int)) : Prop :=
  ∃ a c, v = .slice a l.length c ∧ l.length ≤ c ∧ c ≤ maxLen ∧ ∀ i p, l[i]? = some p → ∃ b o, a = some ⟨b, o, none⟩ ∧ b < w.heap.size ∧
    w.cell? ⟨b, o + i * 2, none⟩ = some (.string p.1) ∧ w.cell? ⟨b, o + i * 2 + 1, none⟩ = some (.int .u8 p.2) ∧ p.1.size ≤ reachBytes ∧ 0 ≤ p.2 ∧ p.2 ≤ 255

theorem held_two {B : Nat} {u v : Value} {w W W' : World} (hB : B + 1 = w.heap.size) (hb : Below W.heap.size W W') (h : (W.cell? ⟨B, 0, none⟩ = some u ∧ W.cell? ⟨B, 1, none⟩ = some v) ∧ Below w.heap.size w W) :
    (W'.cell? ⟨B, 0, none⟩ = some u ∧ W'.cell? ⟨B, 1, none⟩ = some v) ∧ Below w.heap.size w W' :=
  have hz := h.2.size
  ⟨⟨(hb.cell (p := ⟨B, 0, none⟩) (by simp; omega)).trans h.1.1, (hb.cell (p := ⟨B, 1, none⟩) (by simp; omega)).trans h.1.2⟩, h.2.trans (hb.mono hz)⟩

set_option maxHeartbeats 1000000 in
theorem content_any (v : Value) (l : List (ByteArray × Int)) (w : World) (hv : PartsIn w v l) :
    Calls Try.prog 11 #[v] w fun e w' => ∃ s ok, e = .returned (.tuple #[.string s, .bool ok]) ∧ (ok = true → s.size ≤ 2000) ∧ Below w.heap.size w w' := by
  obtain ⟨a, c, rfl, h1, h2, h3⟩ := hv
  have H3 := Keep.mk h3
  unfold maxLen at h2
  clear h3
  go_enter Try.func11, Try.ntmps11
  go_wp2
  go_loopw [9, 4] (fun i x wr => ∃ (k : Nat) (s : ByteArray), k ≤ l.length ∧ i = .int .i64 k ∧ x = .string s ∧ s.size ≤ 2000 ∧ Below w.heap.size w wr) (fun i _ _ => l.length - (intOf i).toNat)
  case atStart => exact ⟨0, ⟨#[]⟩, Nat.zero_le _, rfl, rfl, by decide, Below.refl _ _⟩
  case round =>
    obtain ⟨k, s, hk, rfl, rfl, hs, hbr⟩ := hrel
    by_cases hlt : k < l.length
    · obtain ⟨⟨d, z⟩, hp⟩ : ∃ p, l[k]? = some p := ⟨_, List.getElem?_eq_getElem hlt⟩
      obtain ⟨b, o, rfl, hb, hc1, hc2, hd, hz0, hz1⟩ := H3.out k _ hp
      have hc1' := (hbr.cell (p := ⟨b, o + k * 2, none⟩) hb).trans hc1
      have hc2' := (hbr.cell (p := ⟨b, o + k * 2 + 1, none⟩) hb).trans hc2
      unfold reachBytes at hd
      dsimp only at hc1' hc2' hd hz0 hz1
      clear hc1 hc2 hp
      have hzs := hbr.size
      obtain ⟨n, rfl⟩ := Int.eq_ofNat_of_zero_le hz0
      have hcv : IntKind.i64.wrap ((n : Nat) : Int) = ((n : Nat) : Int) := IntWalk.i64_in _ (by omega)
      have hrep := fun (wx : World) => repeat_any ⟨#[0]⟩ (n : Int) wx (by omega) (by rw [Int.toNat_natCast, show (⟨#[0]⟩ : ByteArray).size = 1 from rfl]; omega) (by omega)
      have hrz : (mkS (Lib.repeatL (⟨#[0]⟩ : ByteArray).data.toList ((n : Int)).toNat)).size ≤ 255 := by rw [size_mkS, Lib.repeatL_length, Int.toNat_natCast]; simp; omega
      generalize mkS (Lib.repeatL (⟨#[0]⟩ : ByteArray).data.toList ((n : Int)).toNat) = r at *
      have hdr : (d ++ r).size = d.size + r.size := ByteArray.size_append
      have hsdr : (s ++ (d ++ r)).size = s.size + (d.size + r.size) := by rw [ByteArray.size_append, hdr]
      have hcat1 := fun (wx : World) => run_string_add_sum (P := Try.prog) wx d r (by omega)
      have hcat2 := fun (wx : World) => run_string_add_sum (P := Try.prog) wx s (d ++ r) (by omega)
      have hn1 : (n : Int) ≤ 255 := hz1
      obtain ⟨x, hx⟩ : ∃ x, x = s ++ (d ++ r) := ⟨_, rfl⟩
      have hxz : x.size ≤ 140737488999999 := by rw [hx]; omega
      rw [← hx] at hcat2
      clear hx hdr hsdr hz0 hz1
      go_wp2_with fail
      obtain ⟨wa, hwa⟩ : ∃ wa, wa = wr.alloc (.cells #[.string d, .int .u8 n] 50) := ⟨_, rfl⟩
      have ha0 : wa.cell? ⟨wr.heap.size, 0, none⟩ = some (.string d) := by rw [hwa, World.cell?]; simp only [World.alloc_heap_new]; rfl
      have ha1 : wa.cell? ⟨wr.heap.size, 1, none⟩ = some (.int .u8 n) := by rw [hwa, World.cell?]; simp only [World.alloc_heap_new]; rfl
      have haz : wr.heap.size + 1 = wa.heap.size := by rw [hwa]; simp
      have HB : Keep (Below w.heap.size w wa) := ⟨by rw [hwa]; exact hbr.alloc hzs _⟩
      rw [← hwa]
      clear hwa hbr hc1' hc2'
      go_region_held3 (fun w' => (w'.cell? ⟨wr.heap.size, 0, none⟩ = some (.string d) ∧ w'.cell? ⟨wr.heap.size, 1, none⟩ = some (.int .u8 n)) ∧ Below wa.heap.size wa w')
        (first | exact ⟨⟨ha0, ha1⟩, (Below.refl wa.heap.size wa).drew⟩ | exact ⟨⟨ha0, ha1⟩, Below.refl wa.heap.size wa⟩ | exact held_two haz hb4 (by assumption) | assumption)
        ((go_at_call 26; refine (hrep _).mono ?_; rintro e w4 ⟨rfl, hb4⟩))
      all_goals
        have hfin : Below w.heap.size w w4 := HB.out.trans ((Below.refl wa.heap.size wa).drew.trans hb4 |>.mono (by have := HB.out.size; omega))
        clear hb4
        by_cases hbig : 2000 < x.size
        · have hbig' : (2000 : Int) < (x.size : Int) := by omega
          go_wp2
          go_ret2
          exact ⟨⟨#[]⟩, false, rfl, fun h => (by cases h), hfin⟩
        · have hbig' : ¬ (2000 : Int) < (x.size : Int) := by omega
          go_wp2
          go_roundw
          case rel => exact ⟨k + 1, x, by omega, by go_num, rfl, by omega, hfin⟩
          case measure => simp [intOf]; omega
    · go_wp2
      go_ret2
      exact ⟨s, true, rfl, fun _ => hs, hbr⟩
end Go.Proofs.Ytgoipkilpmjecaa
