/- The plain law of strips: they are good pieces; which frames a list of them holds; what a run of them reads. No condition but the guard on plain marks. The plain law of the three ends: which strips are missing. No condition. -/
import Derived.Test.YtojgopbaiflfgaaGreatDoorTpBoot
namespace Go.Proofs.YtojgopbaiflfgaaGreatDoor
set_option maxRecDepth 100000
open Go.RowKit Go.Shelf Go.Proofs.YtojgopbaiflfgaaGreatDoor.B2

def pcOf (arch tot : Nat) (T : ByteArray) (j : Nat) : Pc := (stripOf arch tot T j, 4 * j, min 4 (tot - 4 * j))
section
variable {arch tot : Nat} {T : ByteArray}
theorem framesL_part (ha : arch < 4294967296) (a : Nat) : ∀ n, (∀ i, i < a + n → PieceOk i tot (pieceT T i)) → ∀ q, q < n → ((framesL arch tot T a n).drop (768 * q)).take 768 = encL arch (a + q) tot (pieceT T (a + q)).data.toList
  | 0, _, q, hq => by omega
  | n + 1, h, q, hq => by
    have hl := framesL_length arch tot T ha a n (fun i hi => h i (by omega))
    have he := encL_length arch (a + n) tot (pieceT T (a + n)) ha (h (a + n) (by omega))
    rw [framesL_step]
    by_cases hqn : q = n
    · subst hqn
      rw [List.drop_left' hl, List.take_of_length_le (by omega)]
    · rw [List.drop_append_of_le_length (by omega), List.take_append_of_le_length (by rw [List.length_drop]; omega)]
      exact framesL_part ha a n (fun i hi => h i (by omega)) q (by omega)
theorem strip_size (ha : arch < 4294967296) (hok : ∀ i, i < tot → PieceOk i tot (pieceT T i)) (j : Nat) (hj : 4 * j ≤ tot) : (stripOf arch tot T j).size = 768 * min 4 (tot - 4 * j) := by
  unfold stripOf
  rw [mkS_size, framesL_length arch tot T ha _ _ (fun i hi => hok i (by omega))]
theorem strip_cut (ha : arch < 4294967296) (hok : ∀ i, i < tot → PieceOk i tot (pieceT T i)) (j q : Nat) (hq : q < min 4 (tot - 4 * j)) :
    (stripOf arch tot T j).extract (768 * q + 16) (768 * q + 768) = mkS (cellsL (sealL (headL arch (4 * j + q) tot (pieceT T (4 * j + q)).data.toList))) := by
  unfold stripOf
  rw [ext_mkS]
  have h := framesL_part ha (4 * j) (min 4 (tot - 4 * j)) (fun i hi => hok i (by omega)) q hq
  have h2 := congrArg (List.drop 16) h
  rw [List.drop_take, List.drop_drop] at h2
  rw [show 768 * q + 768 - (768 * q + 16) = 768 - 16 by omega, h2, encL, List.drop_left' (by rfl)]
theorem strip_mark (ha : arch < 4294967296) (hok : ∀ i, i < tot → PieceOk i tot (pieceT T i)) (j q : Nat) (hq : q < min 4 (tot - 4 * j)) : isPlainB (stripOf arch tot T j) (768 * q) = true := by
  have hs := strip_size ha hok j (by omega)
  unfold isPlainB
  rw [decide_eq_true (by omega), Bool.true_and, decide_eq_true_iff]
  unfold stripOf
  rw [ext_mkS]
  have h := framesL_part ha (4 * j) (min 4 (tot - 4 * j)) (fun i hi => hok i (by omega)) q hq
  have h2 := congrArg (List.take 16) h
  rw [List.take_take] at h2
  rw [show 768 * q + 16 - 768 * q = min 16 768 by omega, h2, encL, List.take_left' (by rfl)]
  rfl
theorem strip_good (ha : arch < 4294967296) (hok : ∀ i, i < tot → PieceOk i tot (pieceT T i)) (j : Nat) (hj : 4 * j ≤ tot) (hg : ∀ k, k < (stripOf arch tot T j).size → k % 768 ≠ 0 → isPlainB (stripOf arch tot T j) k = false) : GoodP arch tot T (pcOf arch tot T j) := by
  have hs := strip_size ha hok j hj
  refine ⟨?_, ?_, ?_, ?_, ?_, ?_⟩
  · show 768 * min 4 (tot - 4 * j) ≤ (stripOf arch tot T j).size
    omega
  · show (stripOf arch tot T j).size < 768 * min 4 (tot - 4 * j) + 768
    omega
  · show min 4 (tot - 4 * j) ≤ 4
    omega
  · intro k hk
    have hk' : k + 768 ≤ (stripOf arch tot T j).size := hk
    by_cases hm : k % 768 = 0
    · rw [decide_eq_true hm]
      have := strip_mark ha hok j (k / 768) (by omega)
      rw [show 768 * (k / 768) = k by omega] at this
      exact this
    · rw [decide_eq_false hm]
      exact hg k (by omega) hm
  · intro q hq
    have hq' : q < min 4 (tot - 4 * j) := hq
    exact hok _ (show 4 * j + q < tot by omega)
  · intro q hq
    exact strip_cut ha hok j q hq
theorem mem_fs (idx : List Nat) (i : Nat) : i ∈ fsOf (idx.map (pcOf arch tot T)) ↔ i / 4 ∈ idx ∧ i < tot := by
  unfold fsOf
  rw [List.mem_flatMap]
  constructor
  · rintro ⟨p, hp, hi⟩
    obtain ⟨j, hj, rfl⟩ := List.mem_map.1 hp
    obtain ⟨q, hq, rfl⟩ := List.mem_map.1 hi
    rw [List.mem_range] at hq
    have hq' : q < min 4 (tot - 4 * j) := hq
    show (4 * j + q) / 4 ∈ idx ∧ 4 * j + q < tot
    rw [show (4 * j + q) / 4 = j by omega]
    exact ⟨hj, by omega⟩
  · rintro ⟨hj, hi⟩
    refine ⟨_, List.mem_map.2 ⟨i / 4, hj, rfl⟩, List.mem_map.2 ⟨i % 4, List.mem_range.2 ?_, ?_⟩⟩
    · show i % 4 < min 4 (tot - 4 * (i / 4))
      omega
    · show 4 * (i / 4) + i % 4 = i
      omega
theorem map_pc (idx : List Nat) : (idx.map (pcOf arch tot T)).map (·.1) = idx.map (stripOf arch tot T) := by
  rw [List.map_map]
  rfl
theorem input_strips (ha : arch < 4294967296) (hok : ∀ i, i < tot → PieceOk i tot (pieceT T i)) (a : W) : ∀ (idx : List Nat), (∀ j ∈ idx, 4 * j < tot) → (idx.map (stripOf arch tot T)).flatMap pieceIn = []
  | [], _ => rfl
  | j :: idx, h => by
    rw [List.map_cons, List.flatMap_cons, input_strips ha hok a idx (fun i hi => h i (List.mem_cons_of_mem _ hi)), List.append_nil, pieceIn, if_pos]
    have h1 := h j (List.mem_cons_self ..)
    have := strip_mark ha hok j 0 (by omega)
    simpa using this
theorem mem_miss (xs : List Nat) (i : Nat) : i ∈ missL tot xs ↔ i < tot ∧ i ∉ xs := by
  unfold missL
  rw [List.mem_filter, List.mem_range, decide_eq_true_iff]
theorem textTo_all (hT : T.size = 64 * tot) : mkS (textTo T tot) = T := by
  have key : ∀ n, n ≤ tot → textTo T n = T.data.toList.take (64 * n) := by
    intro n
    induction n with
    | zero => intro _; rfl
    | succ n ih =>
      intro hn
      unfold textTo at ih ⊢
      rw [List.range_succ, List.flatMap_append, ih (by omega)]
      simp only [List.flatMap_cons, List.flatMap_nil, List.append_nil]
      unfold pieceT
      rw [ByteArray.data_extract, Array.toList_extract]
      simp only [List.extract]
      rw [show (n + 1) * 64 - n * 64 = 64 by omega, show n * 64 = 64 * n by omega, show 64 * (n + 1) = 64 * n + 64 by omega, List.take_add]
  rw [key tot (Nat.le_refl _), List.take_of_length_le (by show T.data.toList.length ≤ _; rw [Array.length_toList]; exact Nat.le_of_eq hT)]
  rfl
end
section
variable {arch tot : Nat} {T : ByteArray}
theorem fs_nil {idx : List Nat} (h : idx ≠ []) (hlt : ∀ j ∈ idx, 4 * j < tot) : fsOf (idx.map (pcOf arch tot T)) ≠ [] := fun e => by
  cases idx with
  | nil => exact h rfl
  | cons j l =>
    have : 4 * j ∈ fsOf ((j :: l).map (pcOf arch tot T)) := (mem_fs _ _).2 ⟨by rw [show 4 * j / 4 = j by omega]; exact List.mem_cons_self .., hlt j (List.mem_cons_self ..)⟩
    rw [e] at this
    cases this
theorem miss_nil {idx i6 : List Nat} (hm : ∀ i, i ∈ i6 ↔ i ∈ idx) (h : missL ((tot + 3) / 4) idx = []) : missL tot (fsOf (i6.map (pcOf arch tot T))) = [] := by
  rw [List.eq_nil_iff_forall_not_mem]
  intro i hi
  rw [mem_miss, mem_fs, hm] at hi
  have h2 : i / 4 ∈ missL ((tot + 3) / 4) idx := (mem_miss _ _).2 ⟨by omega, fun e => hi.2 ⟨e, hi.1⟩⟩
  rw [h] at h2
  cases h2
theorem miss_some {idx i6 : List Nat} (hm : ∀ i, i ∈ i6 ↔ i ∈ idx) (h : missL ((tot + 3) / 4) idx ≠ []) : missL tot (fsOf (i6.map (pcOf arch tot T))) ≠ [] := fun e => by
  obtain ⟨j, hj⟩ := List.exists_mem_of_ne_nil _ h
  rw [mem_miss] at hj
  have : 4 * j ∈ missL tot (fsOf (i6.map (pcOf arch tot T))) := (mem_miss _ _).2 ⟨by omega, fun h2 => by
    rw [mem_fs, hm, show 4 * j / 4 = j by omega] at h2
    exact hj.2 h2.1⟩
  rw [e] at this
  cases this
theorem miss_at {idx i6 : List Nat} (hm : ∀ i, i ∈ i6 ↔ i ∈ idx) {i : Nat} (h : i ∈ missL tot (fsOf (i6.map (pcOf arch tot T)))) : i < tot ∧ i / 4 ∉ idx := by
  rw [mem_miss, mem_fs, hm] at h
  exact ⟨h.1, fun e => h.2 ⟨e, h.1⟩⟩
theorem miss_all (N : Nat) : (missL N []).length = N := by
  unfold missL
  rw [List.filter_eq_self.2 (fun a _ => by simp), List.length_range]
theorem miss_lt {N : Nat} {idx : List Nat} (h : idx ≠ []) (hlt : ∀ j ∈ idx, j < N) : (missL N idx).length < N := by
  obtain ⟨j, hj⟩ := List.exists_mem_of_ne_nil _ h
  have : (missL N idx).length < (List.range N).length := List.length_filter_lt_length_iff_exists.2 ⟨j, List.mem_range.2 (hlt j hj), by simp [hj]⟩
  rwa [List.length_range] at this
end
end Go.Proofs.YtojgopbaiflfgaaGreatDoor
