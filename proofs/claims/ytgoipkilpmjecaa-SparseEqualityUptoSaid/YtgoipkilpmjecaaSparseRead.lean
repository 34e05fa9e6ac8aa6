/- The law SparseRead: a range that is read is that part of the content. No condition. -/
import Derived.Test.YtgoipkilpmjecaaSparseSegments
import Derived.Test.YtgoipkilpmjecaaOpenMore
import Derived.Lib.SmallJoins
namespace Go.Proofs.Ytgoipkilpmjecaa
open Go.RowKit Go.Shelf Go.Proofs.Ytgoipkilpmjecaa.Sparse Go.ChangeShapes Go.WideShapes Go.ChangeAt

theorem mkS_append (a b : List UInt8) : mkS a ++ mkS b = mkS (a ++ b) := by
  apply ByteArray.ext
  simp [mkS]
theorem readL_out {l : List Seg} {a n : Int} (h : (sizeL l).2 = 0) (hb : a < 0 ∨ n < 0 ∨ ((expand l).length : Int) < a ∨ ((expand l).length : Int) - a < n) : readL l a n = ([], 2) := by
  unfold readL; rw [joinL_eq h]
  rw [if_neg (by simp), if_pos hb]
theorem readL_in {l : List Seg} {a n : Nat} (h : (sizeL l).2 = 0) (hb : a + n ≤ (expand l).length) : readL l a n = (((expand l).drop a).take n, 0) := by
  unfold readL; rw [joinL_eq h]
  rw [if_neg (by simp), if_neg (by dsimp only; omega)]
  rfl

set_option maxHeartbeats 2000000 in
theorem sparseRead_any (v : Value) (l : List Seg) (i n m : Nat) (w : World) (hv : Segs w v l) (hd : ∀ s ∈ l, s.2.length ≤ reachBytes) (hi : i ≤ 65535) (hn : n ≤ 65535) (hm : m ≤ 65535) :
    Calls Try.prog 7 #[.agg #[v, .int .u16 i, .int .u16 n, .int .u16 m]] w fun e w' => e = .returned (.bool true) ∧ Below w.heap.size w w' := by
  obtain ⟨w0, hw0⟩ : ∃ w0, w0 = w.alloc (.cells #[v, .int .u16 i, .int .u16 n, .int .u16 m] 40) := ⟨_, rfl⟩
  have hbox : w0.heap[w.heap.size]? = some (.cells #[v, .int .u16 i, .int .u16 n, .int .u16 m] 40) := by rw [hw0]; exact World.alloc_heap_new w _
  have hb0 : Below w.heap.size w w0 := by rw [hw0]; exact (Below.refl _ _).alloc (Nat.le_refl _) _
  have hz0 : w.heap.size < w0.heap.size := by rw [hw0]; simp
  have hS0 := hv.below hb0 (Nat.le_refl _)
  obtain ⟨a, c, rfl, _⟩ := hv
  go_enter Try.func7, Try.ntmps7
  go_wp2_with fail
  rw [← hw0]
  clear hw0
  refine (great_any _ l w0 hS0 hd).mono ?_
  rintro e w1 ⟨g, rfl, _, hb1⟩
  clear hd
  have hS1 := hS0.below hb1 (Nat.le_refl _)
  have hbox1 := (hb1.block w.heap.size hz0).trans hbox
  have hB1 : Below w.heap.size w w1 := hb0.trans (hb1.mono (by omega))
  have hz1 : w.heap.size < w1.heap.size := by have := hb1.size; omega
  clear hbox hb1 hS0 hb0 hz0
  cases g with
  | true =>
    go_wp2_with fail
    refine (awake_any _).mono ?_
    rintro e w2 ⟨rfl, hb2⟩
    go_wp2
    go_ret
    exact ⟨rfl, held_on hb2 hB1⟩
  | false =>
    go_wp2_with fail
    refine (segJoin_any _ l w1 hS1).mono ?_
    rintro e w2 ⟨rfl, hb2⟩
    have hS2 := hS1.below hb2 (Nat.le_refl _)
    have hbox2 := (hb2.block w.heap.size hz1).trans hbox1
    have hB2 : Below w.heap.size w w2 := held_on hb2 hB1
    have hc1 : w2.cell? ⟨w.heap.size, 1, none⟩ = some (.int .u16 i) := by rw [World.cell?]; simp only [hbox2]; rfl
    have hc2 : w2.cell? ⟨w.heap.size, 2, none⟩ = some (.int .u16 n) := by rw [World.cell?]; simp only [hbox2]; rfl
    have hc3 : w2.cell? ⟨w.heap.size, 3, none⟩ = some (.int .u16 m) := by rw [World.cell?]; simp only [hbox2]; rfl
    clear hbox1 hbox2 hb2 hS1 hB1 hz1
    by_cases h0 : (sizeL l).2 = 0
    · have hj := joinL_eq h0
      have hlen := joinL_len l
      rw [hj] at hlen ⊢
      dsimp only at hlen ⊢
      have hv1 : IntKind.i64.wrap ((i : Nat) : Int) = (i : Int) := IntWalk.i64_in _ (by omega)
      have hv2 : IntKind.i64.wrap ((n : Nat) : Int) = (n : Int) := IntWalk.i64_in _ (by omega)
      have hv3 : IntKind.i64.wrap ((m : Nat) : Int) = (m : Int) := IntWalk.i64_in _ (by omega)
      obtain ⟨s, hs⟩ : ∃ s, s = mkS (expand l) := ⟨_, rfl⟩
      have hsz : s.size = (expand l).length := by rw [hs, size_mkS]
      have hsd : s.data.toList = expand l := by rw [hs, data_mkS]
      rw [← hs]
      have HH := Keep.mk h0
      have HSZ := Keep.mk hsz
      have HSD := Keep.mk hsd
      have hs6 : s.size ≤ 65536 := by omega
      have hB2' := Keep.mk hB2
      clear hj hs hsz hsd h0 hlen hB2
      go_wp2_with fail
      go_quiet (fail)
      have hS3 : Segs (w2.drewN nq) (.slice a l.length c) l := hS2
      have hB3 : Keep (Below w.heap.size w (w2.drewN nq)) := ⟨below_drewN hB2'.out _⟩
      generalize w2.drewN nq = w3 at *
      clear hS2 hB2' hc1 hc2 hc3
      go_wp2_with fail
      refine (read_any _ l i n w3 hS3).mono ?_
      rintro e w4 ⟨rfl, hb4⟩
      have hS4 := hS3.below hb4 (Nat.le_refl _)
      have hB4 := Keep.mk (held_on hb4 hB3.out)
      clear hb4 hB3 hS3
      go_wp2_with fail
      refine (read_any _ l ((i : Int) + (n : Int)) m w4 hS4).mono ?_
      rintro e w5 ⟨rfl, hb5⟩
      have hS5 := hS4.below hb5 (Nat.le_refl _)
      have hB5 := Keep.mk (held_on hb5 hB4.out)
      clear hb5 hB4 hS4
      go_wp2_with fail
      refine (read_any _ l i ((n : Int) + (m : Int)) w5 hS5).mono ?_
      rintro e w6 ⟨rfl, hb6⟩
      have hB6 := Keep.mk (held_on hb6 hB5.out)
      clear hb6 hB5 hS5
      by_cases hbig : s.size < i + n + m
      · have hr := readL_out (l := l) (a := i) (n := (n : Int) + (m : Int)) HH.out (by have := HSZ.out; omega)
        rw [hr]
        dsimp only
        have hbig' : (s.size : Int) < (i : Int) + (n : Int) + (m : Int) := by omega
        have hmk : mkS [] = ⟨#[]⟩ := rfl
        rw [hmk]
        generalize readL l i n = r1 at *
        generalize readL l ((i : Int) + (n : Int)) m = r2 at *
        clear hr hmk
        go_wp2_with fail
        refine (awake_any _).mono ?_
        rintro e w7 ⟨rfl, hb7⟩
        go_wp2
        go_ret
        exact ⟨rfl, held_on hb7 hB6.out⟩
      · have h1 := readL_in (l := l) (a := i) (n := n) HH.out (by have := HSZ.out; omega)
        have h2 := readL_in (l := l) (a := i + n) (n := m) HH.out (by have := HSZ.out; omega)
        have h3 := readL_in (l := l) (a := i) (n := n + m) HH.out (by have := HSZ.out; omega)
        rw [show (((i + n : Nat) : Int)) = (i : Int) + (n : Int) by omega] at h2
        rw [show (((n + m : Nat) : Int)) = (n : Int) + (m : Int) by omega] at h3
        rw [h1, h2, h3]
        dsimp only
        have hbig' : ¬ (s.size : Int) < (i : Int) + (n : Int) + (m : Int) := by omega
        have e3 : mkS (((expand l).drop i).take (n + m)) = s.extract i (i + n + m) := by
          rw [extract_mid, HSD.out, show i + n + m - i = n + m by omega]
        have e4 : mkS (((expand l).drop i).take n) ++ mkS (((expand l).drop (i + n)).take m) = s.extract i (i + n + m) := by
          rw [← e3, List.take_add, List.drop_drop, mkS_append]
        have z1 : (mkS (((expand l).drop i).take n)).size ≤ 65535 := by rw [size_mkS, List.length_take]; omega
        have z2 : (mkS (((expand l).drop (i + n)).take m)).size ≤ 65535 := by rw [size_mkS, List.length_take]; omega
        rw [e3]
        generalize mkS (((expand l).drop i).take n) = s1 at *
        generalize mkS (((expand l).drop (i + n)).take m) = s2 at *
        have hcat := fun (wx : World) => run_string_add_sum (P := Try.prog) wx s1 s2 (by omega)
        rw [e4] at hcat
        have q1 : (i : Int) ≤ (i : Int) + (n : Int) + (m : Int) := by omega
        have q2 : (i : Int) + (n : Int) + (m : Int) ≤ (s.size : Int) := by omega
        clear h1 h2 h3 e3 e4
        go_wp2_with fail
        refine (awake_any _).mono ?_
        rintro e w7 ⟨rfl, hb7⟩
        go_wp2
        go_ret
        exact ⟨rfl, held_on hb7 hB6.out⟩
    · have hj := joinL_ne h0
      rw [hj]
      dsimp only
      have hne : ((sizeL l).2 != 0) = true := by simp [h0]
      generalize (sizeL l).2 = k at *
      clear h0 hj
      go_wp2_with fail
      refine (awake_any _).mono ?_
      rintro e w3 ⟨rfl, hb3⟩
      go_wp2
      go_ret
      exact ⟨rfl, held_on hb3 hB2⟩
theorem SparseRead_walk : LawWalk 7 Try.f7 := by
  intro H enc W base args ds ps hval hA hsz
  rw [Try.params7] at hA hval hsz
  obtain ⟨v0, vs0, d0, ds0, p0, q0, hargs, rfl, rfl, h0, r0⟩ := trodAll_cons hA
  obtain ⟨rfl, rfl, rfl⟩ := trodAll_nil r0
  obtain rfl : args = #[v0] := by cases args; simp_all
  obtain ⟨c0, c1, c2, c3, y0, y1, y2, y3, fuel, rfl, rfl, rfl, e0, e1, e2, e3⟩ := Go.Joins.open_agg4 Try.underlying40 (by kernel_rfl) (show Try.prog.cellsOf 40 = 4 by kernel_rfl) (hval 0 40 v0 rfl rfl) h0
  have e1' : DataW.trod enc Try.prog W 0 (fun _ => true) true fuel 38 [c1] = some y1 := e1
  have e2' : DataW.trod enc Try.prog W 0 (fun _ => true) true fuel 38 [c2] = some y2 := e2
  have e3' : DataW.trod enc Try.prog W 0 (fun _ => true) true fuel 38 [c3] = some y3 := e3
  obtain ⟨i, f1, rfl, hi⟩ := DataW.trod_int Try.underlying38 e1'
  obtain ⟨n, f2, rfl, hn⟩ := DataW.trod_int Try.underlying38 e2'
  obtain ⟨m, f3, rfl, hm⟩ := DataW.trod_int Try.underlying38 e3'
  simp only [List.cons.injEq, and_true] at f1 f2 f3
  subst f1; subst f2; subst f3
  have hi' : 0 ≤ i ∧ i ≤ 65535 := by simpa [Lit.wf, IntKind.min, IntKind.max, IntKind.signed, IntKind.bits] using hi
  have hn' : 0 ≤ n ∧ n ≤ 65535 := by simpa [Lit.wf, IntKind.min, IntKind.max, IntKind.signed, IntKind.bits] using hn
  have hm' : 0 ≤ m ∧ m ≤ 65535 := by simpa [Lit.wf, IntKind.min, IntKind.max, IntKind.signed, IntKind.bits] using hm
  obtain ⟨i, rfl⟩ := Int.eq_ofNat_of_zero_le hi'.1
  obtain ⟨n, rfl⟩ := Int.eq_ofNat_of_zero_le hn'.1
  obtain ⟨m, rfl⟩ := Int.eq_ofNat_of_zero_le hm'.1
  obtain ⟨l, hl, hb, _⟩ := open_segs1 (d := y0.1) (ps := y0.2) (fuel0 := fuel) e0 (fun k hk => sized_each hsz (j := 0) rfl rfl k (by
    simp only [DataW.weights, Try.underlying40, DataW.weightsEach, List.map_cons, List.mem_append]
    exact .inl hk))
  exact sparseRead_any c0 l i n m W hl hb (by omega) (by omega) (by omega)
end Go.Proofs.Ytgoipkilpmjecaa
namespace Go.Proofs.Ytgoipkilpmjecaa
open Go.ChangeShapes Go.WideShapes Go.ChangeAt Go.RowKit
set_option maxRecDepth 100000 in
theorem SparseRead_lifted (os : Os) (started : os.Started) (H : Type) (enc : TypeId × Value → H) :
    ReturnsInHanded {} Try.checked os 7 .any (Rows.sparseReadSpec.pre6 enc Try.prog Try.f7 Rows.sparseReadRow.domain false) (Rows.sparseReadSpec.post enc Try.prog Try.f7 false true false false) := by
  refine returnsInHanded_of_change_sized (C := Try.checked) own started (by kernel_rfl) Try.func7
    (ChangeSpec.witness6 (enc := enc) (C := Try.checked) false ⟨#[], #[.agg #[.slice none 0 0, .int .u16 0, .int .u16 0, .int .u16 0]], []⟩ 8 (by kernel_rfl) (by kernel_rfl) (by kernel_rfl) (by kernel_rfl)) ?_
  exact law_contract (by kernel_rfl) (by kernel_rfl) ⟨rfl, fun H ds h => by rw [Try.params7] at h; match ds, h with | [d0], _ => rfl⟩ SparseRead_walk
theorem SparseRead_over : Rows.sparseReadRow.holds Try.pinned (OpenSpec.ofChange Rows.sparseReadSpec) :=
  OpenClaim.holds_of_wide 7 Try.f7 rfl rfl rfl rfl rfl rfl rfl ⟨rfl, rfl, rfl, rfl, rfl⟩ rfl rfl rfl rfl rfl (by kernel_rfl) Try.func7 (by kernel_rfl)
    (of_decide_eq_true (by kernel_rfl)) (by unfold Func.isWrapper; first | (rw [if_pos (by decide +kernel)]; kernel_rfl) | (rw [if_neg (by decide +kernel)]; exact ⟨rfl, rfl⟩))
    (fun os started H enc _ => SparseRead_lifted os started H enc)
theorem SparseRead_proved : Rows.SparseReadSaid := SparseRead_over
end Go.Proofs.Ytgoipkilpmjecaa
