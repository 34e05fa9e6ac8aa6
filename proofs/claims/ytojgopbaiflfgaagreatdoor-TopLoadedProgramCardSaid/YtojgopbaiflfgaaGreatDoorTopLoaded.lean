/- steletop.TopLoadedProgram: the walk. Condition: the table of powers of ten lies. -/
import Derived.Test.YtojgopbaiflfgaaGreatDoorTpBoots
import Derived.Test.YtojgopbaiflfgaaGreatDoorTpShuf
import Derived.Test.YtojgopbaiflfgaaGreatDoorTpPlain
import Derived.Laws.MakeOwn
import Derived.Laws.OwnMore
import Derived.Lib.OthersKept
import Derived.Laws.StructEq
import Derived.ChangeKeysEq
namespace Go.Proofs.YtojgopbaiflfgaaGreatDoor
set_option maxRecDepth 100000
open Go.RowKit Go.Shelf Go.Proofs.YtojgopbaiflfgaaGreatDoor.B2

def cntCells (N : Nat) (idx : List Nat) : List Value := (List.range N).map fun j => Value.int .i64 ((idx.count j : Nat) : Int)
theorem mkCnt (w : World) (N : Nat) (hN : N ≤ 4) : ∃ w', (Instr.makeSlice 30 (.int .i64 N) (.int .i64 N)).run Tryz.prog w = .ok (.slice (some ⟨w.heap.size, 0, none⟩) N N) w' ∧ (∀ base, base ≤ w.heap.size → w'.ownsRow base 3 1 (.slice (some ⟨w.heap.size, 0, none⟩) N N) N (cntCells N [])) ∧ Below w.heap.size w w' := by
  obtain ⟨i0, hi, hz0, hz1, hz2⟩ := info_parts (show (Tryz.prog.info? 3).map (fun i => (i.zero, i.size, i.bytes)) = some (some (.int .i64 0), 1, 8) by kernel_rfl)
  have h := run_makeSlice (P := Tryz.prog) (w := w) 30 3 i0 (.int .i64 0) Tryz.underlying30 hi hz0 .i64 .i64 N N (by omega) (by omega) (by rw [hz1]; simp; omega) (by rw [hz2]; omega) (by omega)
  rw [hz1, Nat.mul_one, Int.toNat_natCast] at h
  refine ⟨_, h, fun base hb => ?_, (Below.refl _ _).alloc (Nat.le_refl _) _⟩
  have hl : (madeCells (Value.int .i64 0).cells N).toList = List.replicate N (.int .i64 0) := toList_madeCells_one (.int .i64 0) N
  have := World.ownsRow_lit (e := 3) (size := 1) w (madeCells (Value.int .i64 0).cells N) N hb (by unfold maxLen; omega) (by rw [← Array.length_toList, hl]; simp)
  rw [hl] at this
  have he : cntCells N [] = List.replicate N (.int .i64 0) := by
    unfold cntCells
    apply List.ext_getElem?
    intro i
    by_cases h : i < N <;> simp [h]
  rw [he]
  exact this
theorem okS (code : ByteArray) (hp : printB code = true) (hs : code.size ≤ 900) : ∀ i, i < totC code.size → PieceOk i (totC code.size) (pieceT (padT code) i) := pieceOk code hp hs
theorem row_under {w w' : World} {B base n : Nat} {e : TypeId} {v : Value} {xs : List Value} (h : w.ownsRow base e 1 v n xs) (hlt : ∀ k, v.ownBlock = some k → k < B) (hb : Below B w w') : w'.ownsRow base e 1 v n xs := by
  obtain ⟨h1, h2 | ⟨g, cap, cur, rfl, hb', hh, r⟩⟩ := h
  · exact ⟨h1, .inl h2⟩
  · exact ⟨h1, .inr ⟨g, cap, cur, rfl, hb', (hb.block g (hlt g rfl)).trans hh, r⟩⟩
theorem cnt_get (N : Nat) (idx : List Nat) (i : Nat) (h : i < N) : (cntCells N idx)[i]? = some (.int .i64 ((idx.count i : Nat) : Int)) := by simp [cntCells, h]
theorem cnt_step (N : Nat) (idx : List Nat) (i : Nat) : (cntCells N idx).set i (.int .i64 (((idx.count i : Nat) : Int) + 1)) = cntCells N (idx ++ [i]) := by
  apply List.ext_getElem?
  intro j
  rw [List.getElem?_set]
  by_cases hj : j < N
  · rw [cnt_get _ _ _ hj]
    by_cases hij : i = j
    · subst hij
      simp [cntCells, hj]
    · rw [if_neg hij, cnt_get _ _ _ hj, List.count_append]
      simp [hij]
  · have h0 : ∀ l, (cntCells N l)[j]? = none := fun l => by simp [cntCells]; omega
    rw [h0, h0]
    have : (cntCells N idx).length = N := by simp [cntCells]
    split
    · rename_i e
      rw [if_neg (by rw [this]; omega)]
    · rfl
theorem strs_celX {w : World} {base p : Nat} {v : Value} {S : Nat → ByteArray} {idx : List Nat} (h : w.ownsRow base 9 1 v p (celX S idx)) (hl : idx.length = p) : Strs w v (idx.map S) := by
  subst hl
  have : OwnStrs base w v (idx.map S) := by unfold OwnStrs; rw [List.length_map]; exact h
  exact this.strs
theorem cells_ascii (l : List UInt8) : ∀ c ∈ cellsL l, c.toNat < 128 := fun c hc => by
  unfold cellsL at hc
  obtain ⟨b, -, hb⟩ := List.mem_flatMap.1 hc
  unfold cellsB at hb
  obtain ⟨k, -, rfl⟩ := List.mem_map.1 hb
  unfold bitC
  have : b.toNat / 2 ^ (7 - k) % 2 < 2 := Nat.mod_lt _ (by decide)
  rw [UInt8.toNat_ofNat']
  omega
theorem strip_ascii (arch tot : Nat) (T : ByteArray) (j k : Nat) (hk : k < (stripOf arch tot T j).size) : ((stripOf arch tot T j)[k]).toNat < 128 := by
  have h := ba_mem _ k hk
  have h2 : ∀ c ∈ (stripOf arch tot T j).data.toList, c.toNat < 128 := fun c hc => by
    have hc' : c ∈ framesL arch tot T (4 * j) (min 4 (tot - 4 * j)) := hc
    unfold framesL at hc'
    obtain ⟨q, -, hq⟩ := List.mem_flatMap.1 hc'
    unfold encL at hq
    rcases List.mem_append.1 hq with hq | hq
    · revert hq
      have : ∀ c ∈ markP.data.toList, c.toNat < 128 := by decide
      exact this c
    · exact cells_ascii _ c hq
  exact h2 _ h
def posOf (w : World) (k : Nat) : Nat := match w.heap[k]? with
  | some (.stringIter _ p) => p
  | _ => 0
theorem posOf_eq {w : World} {k : Nat} {s : ByteArray} {p : Nat} (h : w.heap[k]? = some (.stringIter s p)) : posOf w k = p := by unfold posOf; rw [h]
/-- What lies while the pieces are laid. -/
structure LvIn (B0 B4 : Nat) (w : World) (S : Nat → ByteArray) (N g GM : Nat) (sv : Value) (es : List (Int × Value)) (il ir : List Nat) (p : Nat) (v : Value) (wr : World) : Prop where
  left : wr.ownsRow B0 3 1 (.slice (some ⟨g, 0, none⟩) N N) N (cntCells N il)
  strips : wr.ownsRow B0 9 1 sv N (strCells ((List.range N).map S))
  gone : MapIs kInt wr GM es
  row : wr.ownsRow B4 9 1 v p (celX S ir)
  bel : Below B0 w wr
  size : B4 ≤ wr.heap.size
  len : ir.length = p
  lt : ∀ j ∈ il, j < N
section
variable {B0 B4 N g GM p : Nat} {w wr : World} {S : Nat → ByteArray} {sv v : Value} {es : List (Int × Value)} {il ir : List Nat}
theorem LvIn.set (h : LvIn B0 B4 w S N g GM sv es il ir p v wr) (hg : B0 ≤ g) (hg4 : g < B4) (hsv : sv.ownBlock ≠ some g) (i : Nat) (hi : i < N) :
    LvIn B0 B4 w S N g GM sv es (il ++ [i]) ir p v (wr.setCell ⟨g, i, none⟩ (.int .i64 (((il.count i : Nat) : Int) + 1))) := by
  have hs := h.left.stored i (.int .i64 (((il.count i : Nat) : Int) + 1))
  have hne : v.ownBlock ≠ some g := fun e => by
    have := ownsRow_block h.row _ e
    omega
  refine ⟨by rw [← cnt_step]; exact hs.1, row_kept h.strips hs.2 (fun r hr => by cases hr; exact hsv), h.gone.setCell _ _, row_kept h.row hs.2 (fun r hr => by cases hr; exact hne), h.bel.setCell (p := ⟨g, i, none⟩) hg _, Nat.le_trans h.size hs.2.size, h.len, fun j hj => ?_⟩
  rcases List.mem_append.1 hj with hj | hj
  · exact h.lt j hj
  · rw [List.mem_singleton.1 hj]; exact hi
theorem LvIn.app {w9 : World} {v9 : Value} (h : LvIn B0 B4 w S N g GM sv es il ir p v wr) (hb0 : B0 ≤ B4) (hg4 : g < B4) (hG4 : GM < B4) (hsv : ∀ k, sv.ownBlock = some k → k < B4) (i : Nat) (hown : w9.ownsRow B4 9 1 v9 (p + 1) (celX S ir ++ [.string (S i)])) (hb : Below B4 wr w9) :
    LvIn B0 B4 w S N g GM sv es il (ir ++ [i]) (p + 1) v9 w9 :=
  ⟨row_under h.left (fun k e => by cases e; exact hg4) hb, row_under h.strips hsv hb, h.gone.below hb hG4, by rw [celX_append]; exact hown, h.bel.trans (hb.mono hb0), Nat.le_trans h.size hb.size, by rw [List.length_append, h.len]; rfl, h.lt⟩
end
theorem pad_eq (c : ByteArray) : c ++ mkS (Lib.repeatL [32] ((64 - c.size % 64) % 64)) = padT c := by
  unfold padT
  rw [repeatL_flatten]
  have : (64 - c.size % 64) % 64 = 64 * totC c.size - c.size := by unfold totC; omega
  rw [this]
  congr 2
  simp
theorem pad_has {c T : ByteArray} (h : T = padT c) : Lib.hasPrefix T.data.toList c.data.toList = true := by
  rw [h, Lib.hasPrefix, List.isPrefixOf_iff_prefix]
  unfold padT
  simp
theorem Tryz.guardOut : Tryz.prog.eqGuardType Tryz.prog.depth 35 = false := by kernel_rfl
theorem run_eql_out (w : World) (s : ByteArray) (a b : Int) : (binOp .eql 35 (.agg #[.string s, .int .i64 a, .int .i64 b]) (.agg #[.string s, .int .i64 a, .int .i64 b])).run Tryz.prog w = .ok (.bool true) w := by
  have hf : (Tryz.prog.fieldsOf 35).toList = [{ name := "Output", type := 9, offset := 0, embedded := false, tag := "", pkgPath := "", byteOffset := 0 }, { name := "Err", type := 26, offset := 1, embedded := false, tag := "", pkgPath := "", byteOffset := 16 }, { name := "Steps", type := 3, offset := 2, embedded := false, tag := "", pkgPath := "", byteOffset := 24 }] := by
    simp only [Program.fieldsOf, Tryz.underlying35]
  have p1 : ∀ a b c : Value, (part 9 #[a, b, c] 0).run Tryz.prog w = .ok a w := fun a b c => run_part_plain w (by kernel_rfl) rfl
  have p2 : ∀ a b c : Value, (part 26 #[a, b, c] 1).run Tryz.prog w = .ok b w := fun a b c => run_part_plain w (by kernel_rfl) rfl
  have p3 : ∀ a b c : Value, (part 3 #[a, b, c] 2).run Tryz.prog w = .ok c w := fun a b c => run_part_plain w (by kernel_rfl) rfl
  have e1 : ∀ a b, (Op.equalIn 9999 9 (.string a) (.string b)).run Tryz.prog w = .ok (a.toList == b.toList) w := fun a b => run_equalIn_string w 9998 9 a b Tryz.underlying9
  have e2 : ∀ a b, (Op.equalIn 9999 26 (.int .i64 a) (.int .i64 b)).run Tryz.prog w = .ok (a == b) w := fun a b => run_equalIn_int w 9998 26 _ _ a b Tryz.underlying26
  have e3 : ∀ a b, (Op.equalIn 9999 3 (.int .i64 a) (.int .i64 b)).run Tryz.prog w = .ok (a == b) w := fun a b => run_equalIn_int w 9998 3 _ _ a b Tryz.underlying3
  rw [run_eql_struct, run_equalIn_agg w 9999 35 _ _ (by kernel_rfl) (by kernel_rfl), hf]
  simp only [Op.eqFields]
  rw [if_pos (by decide), if_pos (by decide), if_pos (by decide)]
  simp only [Sem.run_bind, p1, p2, p3, e1, e2, e3, Result.andThen, Sem.run_ite, Sem.run_pure]
  simp
set_option maxHeartbeats 16000000 in
theorem topLoaded_any {w : World} (code : ByteArray) (ov lv : Value) (n m : Nat) (hcode : code.size ≤ maxLen) (htab : Tab w) (ho : NumsIn w .u16 ov n) (hl : NumsIn w .u8 lv m) :
    Calls Tryz.prog 3 #[.string code, ov, lv] w fun e w' => e = .returned (.bool true) ∧ Below w.heap.size w w' := by
  have HO := Keep.mk ho
  have HL := Keep.mk hl
  have HTB := Keep.mk htab
  obtain ⟨oa, oc, rfl, o1, o2, o3⟩ := ho
  obtain ⟨la, lc, rfl, l1, l2, l3⟩ := hl
  have HBT : Keep (∀ w', Below w.heap.size w w' → Calls Tryz.prog 4 #[] w' fun e w'' => e = .returned (.bool true) ∧ Below w'.heap.size w' w'') := ⟨fun w' hb => boots_any w' (HTB.out.below hb)⟩
  unfold maxLen at hcode o2 l2
  clear o3 l3 htab
  by_cases hc : 900 < code.size
  · have f1 : (900 : Int) < code.size := by omega
    go_enter Tryz.func3, Tryz.ntmps3
    go_wp2_with fail
    refine (HBT.out _ (Below.refl _ _)).mono ?_
    rintro _ w2 ⟨rfl, hb2⟩
    go_wp2_with fail
    go_ret
    exact ⟨rfl, hb2⟩
  have f1 : ¬ (900 : Int) < code.size := by omega
  by_cases hn : 50 < n
  · have f2 : (50 : Int) < n := by omega
    go_enter Tryz.func3, Tryz.ntmps3
    go_wp2_with fail
    refine (HBT.out _ (Below.refl _ _)).mono ?_
    rintro _ w2 ⟨rfl, hb2⟩
    go_wp2_with fail
    go_ret
    exact ⟨rfl, hb2⟩
  have f2 : ¬ (50 : Int) < n := by omega
  by_cases hm : 20 < m
  · have f3 : (20 : Int) < m := by omega
    go_enter Tryz.func3, Tryz.ntmps3
    go_wp2_with fail
    refine (HBT.out _ (Below.refl _ _)).mono ?_
    rintro _ w2 ⟨rfl, hb2⟩
    go_wp2_with fail
    go_ret
    exact ⟨rfl, hb2⟩
  have f3 : ¬ (20 : Int) < m := by omega
  have hc9 : code.size ≤ 900 := by omega
  have hn5 : n ≤ 50 := by omega
  have hm2 : m ≤ 20 := by omega
  clear hc hn hm
  obtain ⟨q, hq⟩ : ∃ q, printB code = q := ⟨_, rfl⟩
  cases q with
  | false =>
    have HS := Keep.mk (strips_bad code 7 hc9 hq w)
    clear hq
    go_enter Tryz.func3, Tryz.ntmps3
    go_wp2_with fail
    refine HS.out.mono ?_
    rintro _ w2 ⟨rfl, rfl⟩
    go_wp2_with fail
    refine (HBT.out _ (Below.refl _ _)).mono ?_
    rintro _ w3 ⟨rfl, hb3⟩
    go_wp2_with fail
    go_ret
    exact ⟨rfl, hb3⟩
  | true =>
    have HOK := Keep.mk (okS code hq hc9)
    have HS := Keep.mk (strips_any code 7 (by decide) hc9 hq w HTB.out)
    obtain ⟨tot, hto⟩ : ∃ tot, tot = totC code.size := ⟨_, rfl⟩
    obtain ⟨T, hT⟩ : ∃ T, T = padT code := ⟨_, rfl⟩
    have ht15 : tot ≤ 15 := by rw [hto]; unfold totC; omega
    obtain ⟨N, hN⟩ : ∃ N, N = (tot + 3) / 4 := ⟨_, rfl⟩
    have hN4 : N ≤ 4 := by omega
    have HTOT := Keep.mk (And.intro hto hT)
    have HNN := Keep.mk hN
    have HSL : Keep (stripsL 7 code = (List.range N).map (stripOf 7 tot T)) := ⟨by unfold stripsL stripsTo; rw [← hto, ← hT, ← hN]⟩
    rw [HSL.out] at HS
    rw [← hto, ← hT] at HOK
    clear hto hT hN hq HSL
    have HLEN : Keep (((List.range N).map (stripOf 7 tot T)).length = N) := ⟨by simp⟩
    go_enter Tryz.func3, Tryz.ntmps3
    go_wp2_with fail
    refine HS.out.mono ?_
    rintro _ w1 ⟨v1, rfl, hown1, hb1⟩
    unfold OwnStrs at hown1
    rw [HLEN.out] at hown1
    obtain ⟨a1, c1, rfl⟩ := ownsRow_slice hown1
    have HO1 := Keep.mk hown1
    have HB1 := Keep.mk hb1
    clear hown1 hb1 HS
    obtain ⟨w2, hmk, hcnt, hb2⟩ := mkCnt w1 N hN4
    have HC2 := Keep.mk (hcnt w.heap.size HB1.out.size)
    have HB2 := Keep.mk (HB1.out.trans (hb2.mono HB1.out.size))
    have HO2 := Keep.mk (ownsRow_below HO1.out hb2)
    clear hcnt hb2
    have hmm := @run_makeMap Tryz.prog
    have HM3 : Keep (MapIs kInt (w2.alloc (.map #[] 0)) w2.heap.size []) := ⟨MapIs.made kInt w2⟩
    have HB3 : Keep (Below w2.heap.size w2 (w2.alloc (.map #[] 0))) := ⟨(Below.refl _ _).alloc (Nat.le_refl _) _⟩
    go_wp2_with fail
    clear hmm hmk
    generalize (w2.alloc (.map #[] 0)) = w3 at *
    go_loopw [59, 12] (fun i _ wr => ∃ (k : Nat) (es : List (Int × Value)), i = .int .i64 k ∧ k ≤ m ∧ Keep (MapIs kInt wr w2.heap.size es) ∧ Keep (∀ x v, lookL x es = some v → v = .bool true) ∧ Keep (Below w2.heap.size w2 wr)) (fun i _ _ => m - (intOf i).toNat)
    case atStart => exact ⟨0, [], rfl, Nat.zero_le _, HM3, ⟨fun x v h => by cases h⟩, HB3⟩
    case round =>
      obtain ⟨k, es, rfl, hk, HMP, HTR, HB⟩ := hrel
      by_cases hlt : k < m
      · have k0 : (k : Int) < m := by omega
        obtain ⟨b, o, rfl, hb, x, hx, hcx⟩ : ∃ b o, la = some ⟨b, o, none⟩ ∧ b < w.heap.size ∧ ∃ x : Nat, x < 65536 ∧ w.cell? ⟨b, o + k, none⟩ = some (.int .u8 (x : Int)) := by
          obtain ⟨a', c', e, _, _, h⟩ := HL.out
          simp only [Value.slice.injEq] at e
          obtain ⟨rfl, -, rfl⟩ := e
          rcases h with h | ⟨b, o, h1, h2, h3⟩
          · omega
          · exact ⟨b, o, h1, h2, h3 k hlt⟩
        have HBB := Keep.mk (HB2.out.trans (HB.out.mono HB2.out.size))
        have c0 := (HBB.out.cell (p := ⟨b, o + k, none⟩) hb).trans hcx
        have cl : b < wr.heap.size := Nat.lt_of_lt_of_le hb HBB.out.size
        have hxw : IntKind.i64.wrap (x : Int) = x := IntWalk.i64_in _ (by omega)
        clear hcx
        clear hxw
        go_wp2_with (at_mapUpdate; refine wpList_store (K := kInt) rfl _ _ _ _ rfl Tryz.underlying31 rfl HMP.out ((x : Int) % (3 * max (N : Int) 1)) rfl ?_; intro w5 hM5 hg5; have H5 := Keep.mk (And.intro hM5 (HB.out.grown hg5 HB.out.size (fun k hk => by cases hk; exact Nat.le_refl _))); clear hM5 hg5)
        go_roundw
        case rel => exact ⟨k + 1, putL ((x : Int) % (3 * max (N : Int) 1)) (.bool true) es, by push_cast; rfl, by omega, ⟨H5.out.1⟩, ⟨fun y v h => by
          rw [look_put] at h
          split at h
          · exact (Option.some.inj h).symm
          · exact HTR.out y v h⟩, ⟨H5.out.2⟩⟩
        case measure => simp only [intOf]; omega
      · obtain rfl : k = m := by omega
        have HGW : Keep (w1.heap.size < wr.heap.size ∧ w2.heap.size < wr.heap.size ∧ w.heap.size ≤ w1.heap.size ∧ (∀ k, (Value.slice a1 N c1).ownBlock = some k → k < w1.heap.size) ∧ w.heap.size ≤ wr.heap.size) := ⟨Nat.lt_of_lt_of_le (row_lt HC2.out _ rfl) HB.out.size, HMP.out.lt, HB1.out.size, row_lt HO1.out, Nat.le_trans HB2.out.size HB.out.size⟩
        have HLV : Keep (LvIn w.heap.size wr.heap.size w (stripOf 7 tot T) N w1.heap.size w2.heap.size (.slice a1 N c1) es [] [] 0 (.slice none 0 0) wr) := ⟨⟨ownsRow_below HC2.out HB.out, ownsRow_below HO2.out HB.out, HMP.out, ⟨rfl, .inl ⟨rfl, rfl⟩⟩, HB2.out.trans (HB.out.mono HB2.out.size), Nat.le_refl _, rfl, fun _ h => by cases h⟩⟩
        have HL3 : Keep (∀ k, (Value.slice a1 N c1).ownBlock = some k → k < wr.heap.size) := ⟨fun k hk => Nat.lt_trans (HGW.out.2.2.2.1 k hk) HGW.out.1⟩
        have HNG : Keep ((Value.slice a1 N c1).ownBlock ≠ some w1.heap.size) := ⟨fun e => Nat.lt_irrefl _ (HGW.out.2.2.2.1 _ e)⟩
        clear HM3 HB3 HMP HB HO2 HC2 HB2 HB1 HO1 HL
        obtain ⟨g, hg⟩ : ∃ g, g = w1.heap.size := ⟨_, rfl⟩
        obtain ⟨GM, hGM⟩ : ∃ GM, GM = w2.heap.size := ⟨_, rfl⟩
        obtain ⟨B4, hB4⟩ : ∃ B4, B4 = wr.heap.size := ⟨_, rfl⟩
        rw [← hg, ← hGM, ← hB4] at HGW HLV
        rw [← hg] at HNG
        rw [← hB4] at HL3
        generalize wr = w4 at *
        go_wp2_with fail
        rw [← hg, ← hGM]
        clear hg hGM hB4
        go_loopw [72, 13, 14, 15, 16] (fun i v _ _ _ wr => ∃ (c p : Nat) (idx : List Nat), i = .int .i64 c ∧ c ≤ 3 ∧ p ≤ 4 * c ∧ Keep (LvIn w.heap.size B4 w (stripOf 7 tot T) N g GM (.slice a1 N c1) es idx idx p v wr)) (fun i _ _ _ _ _ => 3 - (intOf i).toNat)
        case atStart => exact ⟨0, 0, [], rfl, by omega, by omega, HLV⟩
        case round =>
          obtain ⟨c, p, idx, rfl, hc3, hp, HLc⟩ := hrel
          by_cases hc : c < 3
          · have k1 : (c : Int) < 3 := by omega
            generalize wr = w5 at *
            go_wp2_with fail
            go_loopw [77, 13, 15, 16] (fun i v _ _ wr => ∃ (j p' : Nat) (idx' : List Nat), i = .int .i64 j ∧ j ≤ N ∧ p' ≤ p + j ∧ Keep (LvIn w.heap.size B4 w (stripOf 7 tot T) N g GM (.slice a1 N c1) es idx' idx' p' v wr)) (fun i _ _ _ _ => N - (intOf i).toNat)
            case atStart => exact ⟨0, p, idx, rfl, Nat.zero_le _, by omega, HLc⟩
            case round =>
              obtain ⟨j, p', idx', rfl, hj, hp', HLj⟩ := hrel
              by_cases hjN : j < N
              · have k2 : (j : Int) < N := by omega
                obtain ⟨P, hP, hP12⟩ : ∃ P : Nat, ((c : Int) * (N : Int) = (P : Int)) ∧ P ≤ 12 := ⟨c * N, by push_cast; rfl, by have := Nat.mul_le_mul hc3 hN4; omega⟩
                obtain ⟨sg, sc, hsv, hs1, hs2⟩ := ownsRow_lead HLj.out.strips (by omega)
                simp only [Value.slice.injEq] at hsv
                obtain ⟨rfl, -, rfl⟩ := hsv
                obtain ⟨pa, pc, rfl⟩ := ownsRow_slice HLj.out.row
                have cs : wr.cell? ⟨sg, j, none⟩ = some (.string (stripOf 7 tot T j)) := by
                  rw [HLj.out.strips.cellAt j (by omega)]
                  simp [strCells, hjN]
                have sl := (HLj.out.strips.lt sg rfl).2
                have cl := (HLj.out.left.cellAt j (by omega)).trans (cnt_get N idx' j hjN)
                have gl := (HLj.out.left.lt g rfl).2
                have gf := HLj.out.left.frozenAt j
                have hlk := HLj.out.gone.look Tryz.underlying31 (z := .bool false) (fun w => rfl) ((P : Int) + (j : Int)) false
                have hgd : ∃ q, (lookL ((P : Int) + (j : Int)) es).getD (.bool false) = .bool q := by
                  cases h : lookL ((P : Int) + (j : Int)) es with
                  | none => exact ⟨false, rfl⟩
                  | some u => exact ⟨true, HTR.out _ _ h⟩
                obtain ⟨q, hq⟩ := hgd
                simp only [Bool.false_eq_true, if_false, hq] at hlk
                have hct : idx'.count j ≤ 12 := Nat.le_trans (List.count_le_length ..) (by rw [HLj.out.len]; omega)
                unfold maxLen at hs2
                clear hq
                have hPw : IntKind.i64.wrap (P : Int) = (P : Int) := IntWalk.i64_in _ (by omega)
                have hlk2 : (Instr.lookup 31 (.map (some GM)) (.int .i64 ((P : Int) + (j : Int))) false).run Tryz.prog wr = .ok (.bool q) wr := hlk
                clear hlk
                cases q with
                | true =>
                  go_wp2_with fail
                  go_roundw
                  case rel => exact ⟨j + 1, p', idx', by push_cast; rfl, by omega, by omega, HLj⟩
                  case measure => simp only [intOf]; omega
                | false =>
                  obtain ⟨i0, hi, hz0, hz1, hz2⟩ := info_parts Tryz.infoStrS
                  have HL6 := Keep.mk (HLj.out.set HGW.out.2.2.1 HGW.out.1 HNG.out j hjN)
                  generalize idx'.count j = ct at *
                  go_upto_region 22 with (fail)
                  generalize (wr.setCell ⟨g, j, none⟩ (.int .i64 ((ct : Int) + 1))) = w6 at *
                  clear cs sl gl gf cl hct hlk2 hPw HLj
                  have hsz6 := HL6.out.size
                  obtain ⟨st, hst⟩ : ∃ st, st = stripOf 7 tot T j := ⟨_, rfl⟩
                  rw [← hst]
                  have HST := Keep.mk hst
                  clear hst
                  go_wp2_with (at_builtin; go_must (refine wpList_append_slc rfl _ _ 25 rfl B4 9 i0 (.string ⟨#[]⟩) 1 16 Tryz.underlying25 hi hz0 hz1 hz2 rfl (by decide) _ p' (celX (stripOf 7 tot T) idx') rfl (World.ownsRow.alloc HL6.out.row _) _ 1 [.string st] rfl (slcM_made (t := 9) [.string st] (by decide) rfl) (by simp [Value.oneCell']) (by unfold maxLen; omega) (by omega) (by simp; omega) ?_); intro v9 w9 hown9 hg9 hv9; have H9 := Keep.mk (And.intro hown9 (below_append ((Below.refl B4 w6).alloc hsz6 _) (by simp; omega) (World.ownsRow.alloc HL6.out.row _) (Nat.le_refl _) hg9)); clear hown9 hg9 hv9)
                  go_roundw
                  case rel => exact ⟨j + 1, p' + 1, idx' ++ [j], by push_cast; rfl, by omega, by omega, ⟨HL6.out.app HGW.out.2.2.2.2 HGW.out.1 HGW.out.2.1 HL3.out j (by rw [← HST.out]; exact H9.out.1) H9.out.2⟩⟩
                  case measure => simp only [intOf]; omega
              · obtain rfl : j = N := by omega
                go_wp2_with fail
                go_roundw
                case rel => exact ⟨c + 1, p', idx', by push_cast; rfl, by omega, by omega, HLj⟩
                case measure => simp only [intOf]; omega
          · obtain rfl : c = 3 := by omega
            generalize wr = w5 at *
            obtain ⟨pa, pc, rfl⟩ := ownsRow_slice HLc.out.row
            have HSH := Keep.mk (shuffled_any (w := w5) (v := .slice pa p pc) (bv := .slice oa n oc) (stripOf 7 tot T) idx n (strs_celX HLc.out.row HLc.out.len) (HO.out.below HLc.out.bel) (by rw [HLc.out.len]; omega) hn5)
            go_wp2_with fail
            refine HSH.out.mono ?_
            rintro _ w6 ⟨v6, idx6, rfl, hown6, hlen6, hmem6, hb6⟩
            obtain ⟨p6, p6c, rfl⟩ := ownsRow_slice hown6
            have HPC := Keep.mk hown6.strs
            have HMEM : Keep (∀ i, i ∈ idx6 ↔ i ∈ idx) := ⟨hmem6⟩
            have HLT : Keep (∀ i ∈ idx, i < N) := ⟨HLc.out.lt⟩
            have HLF := Keep.mk (ownsRow_below HLc.out.left hb6)
            have HST := Keep.mk (ownsRow_below HLc.out.strips hb6)
            have HB6 := Keep.mk (HLc.out.bel.trans (hb6.mono HLc.out.bel.size))
            clear hown6 hmem6 hb6 HSH HLc HLV HGW HNG HL3 HTR HO
            go_wp2_with fail
            go_loopw [108, 18, 19] (fun i _ _ wr => ∃ j : Nat, i = .int .i64 j ∧ j ≤ N ∧ Keep (∀ j', j' < j → ∀ k, k < (stripOf 7 tot T j').size → k % 768 ≠ 0 → isPlainB (stripOf 7 tot T j') k = false) ∧ Keep (Below w6.heap.size w6 wr)) (fun i _ _ _ => N - (intOf i).toNat)
            case atStart => exact ⟨0, rfl, Nat.zero_le _, ⟨fun j' h => absurd h (Nat.not_lt_zero _)⟩, ⟨Below.refl _ _⟩⟩
            case round =>
              obtain ⟨j, rfl, hj, HGD, HBj⟩ := hrel
              by_cases hjN : j < N
              · have k2 : (j : Int) < N := by omega
                have hst := ownsRow_below HST.out HBj.out
                obtain ⟨sg, sc, hsv, hs1, hs2⟩ := ownsRow_lead hst (by omega)
                simp only [Value.slice.injEq] at hsv
                obtain ⟨rfl, -, rfl⟩ := hsv
                have cs : wr.cell? ⟨sg, j, none⟩ = some (.string (stripOf 7 tot T j)) := by
                  rw [hst.cellAt j (by omega)]
                  simp [strCells, hjN]
                have sl := (hst.lt sg rfl).2
                clear hst
                unfold maxLen at hs2
                obtain ⟨s, hs⟩ : ∃ s, s = stripOf 7 tot T j := ⟨_, rfl⟩
                rw [← hs] at cs
                have HS := Keep.mk hs
                have HAS : Keep (∀ k (hk : k < s.size), s[k].toNat < 128) := ⟨by rw [hs]; exact strip_ascii 7 tot T j⟩
                clear hs
                generalize wr = w7 at *
                go_wp2_with fail
                have hit0 : (w7.iter s 0).heap[w7.heap.size]? = some (.stringIter s 0) := World.alloc_heap_new w7 _
                have HIT0 := Keep.mk hit0
                have HB7 : Keep (Below w7.heap.size w7 (w7.iter s 0)) := ⟨(Below.refl _ _).alloc (Nat.le_refl _) _⟩
                have HSZ : Keep (s.size ≤ 3072) := ⟨by rw [HS.out, strip_size (by decide) HOK.out j (by have := HNN.out; omega)]; omega⟩
                clear hit0 cs sl
                generalize (w7.iter s 0) = w8 at *
                obtain ⟨IT, hIT⟩ : ∃ IT, IT = w7.heap.size := ⟨_, rfl⟩
                rw [← hIT] at HIT0 HB7 ⊢
                have HITE := Keep.mk hIT
                clear hIT
                go_loopw [19] (fun _ wr => ∃ pos : Nat, pos ≤ s.size ∧ Keep (wr.heap[IT]? = some (.stringIter s pos)) ∧ Keep (∀ k, k < pos → k % 768 ≠ 0 → isPlainB s k = false) ∧ Keep (Below IT w8 wr)) (fun _ wr => s.size - posOf wr IT)
                case atStart => exact ⟨0, Nat.zero_le _, HIT0, ⟨fun k h => absurd h (Nat.not_lt_zero _)⟩, ⟨Below.refl _ _⟩⟩
                case round =>
                  obtain ⟨pos, hpos, HIT, HGP, HBP⟩ := hrel
                  by_cases hp7 : pos < s.size
                  · have hnx := fun ty => Lib.run_next_ascii_at (P := Tryz.prog) wr IT s pos ty HIT.out hp7 (HAS.out pos hp7)
                    have hitn := Lib.iterAt_heap wr IT s pos (pos + 1) HIT.out
                    have hbn := Lib.below_iterAt HBP.out (Nat.le_refl IT) s (pos + 1)
                    have hpz : pos ≤ 3072 := by have := HSZ.out; omega
                    have HPW := Keep.mk (posOf_eq HIT.out)
                    have HPW2 := Keep.mk (posOf_eq hitn)
                    have HITN := Keep.mk hitn
                    have HBN := Keep.mk hbn
                    have HPL := Keep.mk (fun w => isPlain_any s pos (by have := HSZ.out; unfold maxLen; omega) (by omega) w)
                    obtain ⟨A, hA⟩ : ∃ A, A = pos % 768 := ⟨_, rfl⟩
                    have hA1 : (pos : Int).tmod 768 = (A : Int) := by rw [hA]; rfl
                    have hA2 : (pos : Int) % 768 = (A : Int) := by rw [hA]; rfl
                    have HA := Keep.mk hA
                    clear hA hitn hbn
                    generalize s[pos] = sp at *
                    generalize (wr.iterAt IT s (pos + 1)) = w9 at *
                    by_cases hA0 : A = 0
                    · subst hA0
                      go_wp2_with fail
                      refine ⟨⟨pos + 1, by omega, HITN, ⟨fun k hk hk2 => ?_⟩, HBN⟩, ?_⟩
                      · by_cases hkp : k = pos
                        · subst hkp
                          exact absurd HA.out.symm hk2
                        · exact HGP.out k (by omega) hk2
                      · rw [HPW.out, HPW2.out]
                        omega
                    · have hAz : ¬ (A : Int) = 0 := by omega
                      have hAn : ((A : Int) == 0) = false := by rw [beq_eq_false_iff_ne]; omega
                      obtain ⟨q, hq⟩ : ∃ q, isPlainB s pos = q := ⟨_, rfl⟩
                      rw [hq] at HPL
                      have HQ := Keep.mk hq
                      clear hq
                      have HBW := Keep.mk (((HB6.out.trans (HBj.out.mono HB6.out.size)).trans (HB7.out.mono (by rw [HITE.out]; exact Nat.le_trans HB6.out.size HBj.out.size))).trans (HBN.out.mono (by rw [HITE.out]; exact Nat.le_trans HB6.out.size HBj.out.size)))
                      go_wp2_with fail
                      refine (HPL.out _).mono ?_
                      rintro _ w10 ⟨rfl, rfl⟩
                      cases q with
                      | true =>
                        go_wp2_with fail
                        refine (HBT.out _ HBW.out).mono ?_
                        rintro _ w11 ⟨rfl, hb11⟩
                        have HBL := Keep.mk (HBW.out.trans (hb11.mono HBW.out.size))
                        clear hb11
                        go_wp2_with fail
                        go_ret
                        exact ⟨rfl, HBL.out⟩
                      | false =>
                        go_wp2_with fail
                        refine ⟨⟨pos + 1, by omega, HITN, ⟨fun k hk hk2 => ?_⟩, HBN⟩, ?_⟩
                        · by_cases hkp : k = pos
                          · subst hkp
                            exact HQ.out
                          · exact HGP.out k (by omega) hk2
                        · rw [HPW.out, HPW2.out]
                          omega
                  · obtain rfl : pos = s.size := by omega
                    have hnx := fun ty => Lib.run_next_end_at (P := Tryz.prog) wr IT s s.size ty HIT.out (Nat.lt_irrefl _)
                    have HBW := Keep.mk (HBj.out.trans ((HB7.out.trans HBP.out).mono (by rw [HITE.out]; exact HBj.out.size)))
                    go_wp2_with fail
                    refine ⟨⟨j + 1, by push_cast; rfl, by omega, ⟨fun j' hj' k hk hk2 => ?_⟩, HBW⟩, by simp only [intOf]; omega⟩
                    by_cases hjj : j' = j
                    · subst hjj
                      rw [← HS.out] at hk ⊢
                      exact HGP.out k hk hk2
                    · exact HGD.out j' (by omega) k hk hk2
              · obtain rfl : j = N := by omega
                have HLF7 := Keep.mk (ownsRow_below HLF.out HBj.out)
                have HPC7 := Keep.mk (HPC.out.below HBj.out (Nat.le_refl _))
                have HB7 := Keep.mk (HB6.out.trans (HBj.out.mono HB6.out.size))
                clear HST HLF HPC HBj HB6
                generalize wr = w7 at *
                go_wp2_with fail
                go_loopw [129, 20, 22] (fun i v _ wr => ∃ j' : Nat, i = .int .i64 j' ∧ j' ≤ j ∧ v = .int .i64 ((missL j' idx).length : Int) ∧ Keep (Below w7.heap.size w7 wr)) (fun i _ _ _ => j - (intOf i).toNat)
                case atStart => exact ⟨0, rfl, Nat.zero_le _, rfl, ⟨Below.refl _ _⟩⟩
                case round =>
                  obtain ⟨j', rfl, hj', rfl, HBm⟩ := hrel
                  have hml : (missL j' idx).length ≤ 4 := by
                    unfold missL
                    exact Nat.le_trans (List.length_filter_le _ _) (by rw [List.length_range]; omega)
                  by_cases hjm : j' < j
                  · have k2 : (j' : Int) < j := by omega
                    have hlf := ownsRow_below HLF7.out HBm.out
                    have cl := (hlf.cellAt j' (by omega)).trans (cnt_get j idx j' hjm)
                    have gl := (hlf.lt g rfl).2
                    clear hlf
                    have HSTP := Keep.mk (missL_step j' idx)
                    by_cases hmem : j' ∈ idx
                    · have hcn : ¬ ((idx.count j' : Nat) : Int) = 0 := by
                        have := List.count_pos_iff.2 hmem
                        omega
                      have HMS : Keep (missL (j' + 1) idx = missL j' idx) := ⟨by rw [HSTP.out, if_pos hmem, List.append_nil]⟩
                      clear HSTP
                      generalize idx.count j' = ct at *
                      go_wp2_with fail
                      go_roundw
                      case rel => exact ⟨j' + 1, by push_cast; rfl, by omega, by rw [HMS.out], HBm⟩
                      case measure => simp only [intOf]; omega
                    · have hc0 := List.count_eq_zero.2 hmem
                      rw [hc0] at cl
                      have HMS : Keep ((missL (j' + 1) idx).length = (missL j' idx).length + 1) := ⟨by rw [HSTP.out, if_neg hmem, List.length_append]; rfl⟩
                      clear HSTP hc0
                      generalize (missL j' idx).length = ml at *
                      go_wp2_with fail
                      go_roundw
                      case rel => exact ⟨j' + 1, by push_cast; rfl, by omega, by rw [HMS.out]; push_cast; rfl, HBm⟩
                      case measure => simp only [intOf]; omega
                  · obtain rfl : j' = j := by omega
                    generalize wr = w8 at *
                    have HL6 : Keep (∀ i ∈ idx6, i < j') := ⟨fun i hi => HLT.out i ((HMEM.out i).1 hi)⟩
                    have HL64 : Keep (∀ i ∈ idx6, 4 * i < tot) := ⟨fun i hi => by have := HL6.out i hi; have := HNN.out; omega⟩
                    have HTS : Keep (T.size = 64 * tot) := ⟨by rw [HTOT.out.2, HTOT.out.1]; exact padT_size code⟩
                    have HTXT : Keep (mkS (textTo T tot) = T) := ⟨textTo_all HTS.out⟩
                    have HTL : Keep ((textTo T tot).length ≤ 1000) := ⟨by have := congrArg ByteArray.size HTXT.out; rw [mkS_size, HTS.out] at this; omega⟩
                    have HGOOD : Keep (∀ q ∈ idx6.map (pcOf 7 tot T), GoodP 7 tot T q) := ⟨fun q hq => by
                      obtain ⟨i, hi, rfl⟩ := List.mem_map.1 hq
                      exact strip_good (by decide) HOK.out i (Nat.le_of_lt (HL64.out i hi)) (fun k hk hk2 => HGD.out i (HL6.out i hi) k hk hk2)⟩
                    have HPC8 : Keep (Strs w8 (.slice p6 idx6.length p6c) ((idx6.map (pcOf 7 tot T)).map (·.1))) := ⟨by
                      rw [map_pc]
                      have := HPC7.out.below HBm.out (Nat.le_refl _)
                      rwa [List.length_map] at this⟩
                    have HINP : Keep (inputL 7#32 ((idx6.map (pcOf 7 tot T)).map (·.1)) = [7#32]) := ⟨by
                      rw [map_pc]
                      unfold inputL
                      rw [input_strips (by decide) HOK.out 7#32 idx6 HL64.out]⟩
                    have HB8 := Keep.mk (HB7.out.trans (HBm.out.mono HB7.out.size))
                    have HLF8 := Keep.mk (ownsRow_below HLF7.out HBm.out)
                    have HBOOT := boot_any (w := w8) (idx6.map (pcOf 7 tot T)) 7#32 tot T 20000 (HTB.out.below HB8.out) (by omega) HPC8.out HGOOD.out (by rw [List.length_map]; omega) HTL.out (by decide) (by decide)
                    rw [HINP.out] at HBOOT
                    have HLOAD : Keep (∀ w', Below w8.heap.size w8 w' → Calls Tryz.prog 9 #[.slice p6 idx6.length p6c, .int .u32 7] w' (LoadEnd w' tot T (fsOf (idx6.map (pcOf 7 tot T))))) := ⟨fun w' hb => load_any _ (idx6.map (pcOf 7 tot T)) 7 tot T w' (by decide) ((HTB.out.below HB8.out).below hb) (by omega) (HPC8.out.below hb (Nat.le_refl _)) HGOOD.out⟩
                    have HBO := Keep.mk HBOOT
                    clear HBOOT HGOOD HPC8 HINP HTL HTS HPC7 HLF7 HBm HB7 HGD HLEN
                    obtain ⟨NN, hNN⟩ : ∃ NN : Nat, NN = j' := ⟨_, rfl⟩
                    by_cases h60 : idx6 = []
                    · subst h60
                      have hid : idx = [] := List.eq_nil_iff_forall_not_mem.2 fun i hi => by have := (HMEM.out i).2 hi; cases this
                      subst hid
                      have HBO2 : Keep (Calls Tryz.prog 8 #[.slice p6 0 p6c, .int .u32 7, .int .i64 20000] w8 fun e w' => e = .returned (.agg #[.string ⟨#[]⟩, .int .i64 9, .int .i64 0]) ∧ Below w8.heap.size w8 w') := ⟨HBO.out⟩
                      have hms : (missL j' []).length = j' := miss_all j'
                      rw [hms]
                      clear hms hml HBO
                      go_wp2_with fail
                      refine HBO2.out.mono ?_
                      rintro _ w9 ⟨rfl, hb9⟩
                      have HB9 := Keep.mk (hb9.trans ((Below.refl w9.heap.size w9).alloc (Nat.le_refl _) (.cells #[.string ⟨#[]⟩, .int .i64 9, .int .i64 0] 35) |>.mono hb9.size))
                      have hx := heap_alloc_new w9 (.cells #[.string ⟨#[]⟩, .int .i64 9, .int .i64 0] 35)
                      clear hb9 HBO2
                      go_wp2_with fail
                      have HX := Keep.mk hx
                      clear hx
                      generalize (w9.alloc (.cells #[.string ⟨#[]⟩, .int .i64 9, .int .i64 0] 35)) = w10 at *
                      generalize w9.heap.size = X at *
                      refine (HLOAD.out _ HB9.out).mono ?_
                      rintro e w11 ⟨hb11, he⟩
                      rw [if_pos (show fsOf (List.map (pcOf 7 tot T) []) = [] from rfl)] at he
                      subst he
                      have hX := (hb11.block X (Array.getElem?_eq_some_iff.1 HX.out).1).trans HX.out
                      have HB11 := Keep.mk (HB8.out.trans ((HB9.out.trans (hb11.mono HB9.out.size)).mono HB8.out.size))
                      have x0 : w11.cell? ⟨X, 0, none⟩ = some (.string ⟨#[]⟩) := by simp [World.cell?, hX]
                      have x1 : w11.cell? ⟨X, 1, none⟩ = some (.int .i64 9) := by simp [World.cell?, hX]
                      have x2 : w11.cell? ⟨X, 2, none⟩ = some (.int .i64 0) := by simp [World.cell?, hX]
                      have xl : X < w11.heap.size := (Array.getElem?_eq_some_iff.1 hX).1
                      have HBW := Keep.mk (HBT.out _ HB11.out)
                      clear hb11 hX HLOAD HB9 HX
                      go_wp2_with fail
                      refine HBW.out.mono ?_
                      rintro _ w12 ⟨rfl, hb12⟩
                      have HBZ := Keep.mk (HB11.out.trans (hb12.mono HB11.out.size))
                      clear hb12 x0 x1 x2 xl
                      go_wp2_with fail
                      go_ret
                      exact ⟨rfl, HBZ.out⟩
                    · have HF : Keep (fsOf (idx6.map (pcOf 7 tot T)) ≠ []) := ⟨fs_nil h60 HL64.out⟩
                      have hid : idx ≠ [] := fun e => by
                        subst e
                        obtain ⟨a, ha⟩ := List.exists_mem_of_ne_nil _ h60
                        have := (HMEM.out a).1 ha
                        cases this
                      have hml2 : (missL j' idx).length < j' := miss_lt hid HLT.out
                      obtain ⟨xs, hxs⟩ : ∃ xs, xs = fsOf (idx6.map (pcOf 7 tot T)) := ⟨_, rfl⟩
                      by_cases hms : missL j' idx = []
                      · have HMN : Keep (missL tot xs = []) := ⟨by rw [hxs]; exact miss_nil HMEM.out (by rw [← HNN.out]; exact hms)⟩
                        rw [← hxs] at HBO HLOAD HF
                        rw [bootC, if_neg HF.out, if_pos HMN.out, HTXT.out] at HBO
                        obtain ⟨r, hr⟩ : ∃ r, r = runT T [7#32] 20000 := ⟨_, rfl⟩
                        rw [← hr] at HBO
                        have HR := Keep.mk hr
                        have hml0 : (((missL j' idx).length : Nat) : Int) = 0 := by rw [hms]; rfl
                        have hj0 : 0 < j' := by omega
                        rw [hml0]
                        have HBO2 : Keep (Calls Tryz.prog 8 #[.slice p6 idx6.length p6c, .int .u32 7, .int .i64 20000] w8 fun e w' => e = .returned (.agg #[.string (mkS r.1), .int .i64 (r.2.1 : Int), .int .i64 (r.2.2 : Int)]) ∧ Below w8.heap.size w8 w') := ⟨HBO.out⟩
                        have HTL9 : Keep (T.size ≤ 1000) := ⟨by rw [HTOT.out.2, padT_size, ← HTOT.out.1]; omega⟩
                        clear hxs hms hid HBO h60 hr hml0 hml2 hml
                        generalize idx6.length = n6 at *
                        have hjn : ¬ (0 : Int) = (j' : Int) := by omega
                        go_wp2_with fail
                        refine HBO2.out.mono ?_
                        rintro _ w9 ⟨rfl, hb9⟩
                        have HB9 := Keep.mk (hb9.trans ((Below.refl w9.heap.size w9).alloc (Nat.le_refl _) (.cells #[.string (mkS r.1), .int .i64 (r.2.1 : Int), .int .i64 (r.2.2 : Int)] 35) |>.mono hb9.size))
                        have hx := heap_alloc_new w9 (.cells #[.string (mkS r.1), .int .i64 (r.2.1 : Int), .int .i64 (r.2.2 : Int)] 35)
                        clear hb9 HBO2
                        go_wp2_with fail
                        have HX := Keep.mk hx
                        clear hx
                        generalize (w9.alloc (.cells #[.string (mkS r.1), .int .i64 (r.2.1 : Int), .int .i64 (r.2.2 : Int)] 35)) = w10 at *
                        generalize w9.heap.size = X at *
                        refine (HLOAD.out _ HB9.out).mono ?_
                        rintro e w11 ⟨hb11, he⟩
                        rw [if_neg HF.out, if_pos HMN.out, HTXT.out] at he
                        subst he
                        have HX11 := Keep.mk ((hb11.block X (Array.getElem?_eq_some_iff.1 HX.out).1).trans HX.out)
                        have HB11 := Keep.mk (HB8.out.trans ((HB9.out.trans (hb11.mono HB9.out.size)).mono HB8.out.size))
                        obtain ⟨A, hA⟩ : ∃ A, A = code.size % 64 := ⟨_, rfl⟩
                        have hA63 : A ≤ 63 := by omega
                        obtain ⟨Z, hZ⟩ : ∃ Z, Z = (64 - A) % 64 := ⟨_, rfl⟩
                        obtain ⟨SP, hSP⟩ : ∃ SP, SP = mkS (Lib.repeatL [32] Z) := ⟨_, rfl⟩
                        have HPT : Keep (code ++ SP = T) := ⟨by rw [HTOT.out.2, hSP, hZ, hA]; exact pad_eq code⟩
                        have hZ63 : Z ≤ 63 := by omega
                        have hsp : SP.size ≤ 63 := by
                          rw [hSP, mkS_size, repeatL_flatten]
                          simp
                          omega
                        have hA1 : (code.size : Int).tmod 64 = (A : Int) := by rw [hA]; rfl
                        have hA2 : (code.size : Int) % 64 = (A : Int) := by rw [hA]; rfl
                        have hZ2 : (64 - (A : Int)) % 64 = (Z : Int) := by omega
                        have hZ1 : (64 - (A : Int)).tmod 64 = (Z : Int) := by rw [Int.tmod_eq_emod_of_nonneg (by omega)]; exact hZ2
                        have HRP : Keep (∀ w, Calls Tryz.prog 10 #[.string ⟨#[32]⟩, .int .i64 (Z : Int)] w fun e w' => e = .returned (.string SP) ∧ Below w.heap.size w w') := ⟨fun w => by
                          have := repeat_any ⟨#[32]⟩ (Z : Int) w (by omega) (by show 1 * _ ≤ _; omega) (by omega)
                          rw [hSP]
                          exact this⟩
                        clear hb11 HLOAD HB9 HX hA hZ hSP
                        go_wp2_with fail
                        refine (HRP.out _).mono ?_
                        rintro _ w12 ⟨rfl, hb12⟩
                        have HB12 := Keep.mk (HB11.out.trans (hb12.mono HB11.out.size))
                        have HX12 := Keep.mk ((hb12.block X (Array.getElem?_eq_some_iff.1 HX11.out).1).trans HX11.out)
                        clear hb12 HX11 HB11 HRP hA1 hA2 hZ1 hZ2
                        go_upto_region 55 with (fail)
                        rw [HPT.out]
                        clear HPT hsp
                        obtain ⟨w14, hw14⟩ : ∃ w14, w14 = (w12.alloc (.cells #[.int .i64 10000, .string T] 42)).alloc (.cells #[.int .u32 7] 29) := ⟨_, rfl⟩
                        have HS1 : Keep (Slc w14 2 (.slice (some ⟨w12.heap.size, 0, none⟩) 1 1) 1 [.int .i64 10000, .string T]) := ⟨by
                          rw [hw14]
                          exact (slc_made (t := 42) [.int .i64 10000, .string T] (by decide) rfl).below ((Below.refl _ _).alloc (Nat.le_refl _) _) (Nat.le_refl _)⟩
                        have HS2 : Keep (Slc w14 1 (.slice (some ⟨(w12.alloc (.cells #[.int .i64 10000, .string T] 42)).heap.size, 0, none⟩) 1 1) 1 [.int .u32 7]) := ⟨by
                          rw [hw14]
                          exact slc_made (t := 29) [.int .u32 7] (by decide) rfl⟩
                        have HSZ : Keep ((w12.alloc (.cells #[.int .i64 10000, .string T] 42)).heap.size = w12.heap.size + 1 ∧ w14.heap.size = w12.heap.size + 1 + 1) := ⟨by rw [hw14]; simp⟩
                        rw [HSZ.out.1] at HS2
                        have HB14 : Keep (Below w12.heap.size w12 w14) := ⟨by
                          rw [hw14]
                          exact ((Below.refl _ _).alloc (Nat.le_refl _) _).alloc (by simp) _⟩
                        have HRUN : Keep (Calls Tryz.prog 11 #[.slice (some ⟨w12.heap.size, 0, none⟩) 1 1, .int .i64 10000, .slice (some ⟨w12.heap.size + 1, 0, none⟩) 1 1, .int .i64 20000] w14 fun e w' => e = .returned (.agg #[.string (mkS r.1), .int .i64 (r.2.1 : Int), .int .i64 (r.2.2 : Int)]) ∧ Below w14.heap.size w14 w') := ⟨by
                          have h := runBig_any (w := w14) T [7#32] 20000 HS1.out HS2.out (fun k hk => by cases hk; rw [HSZ.out.2]; exact Nat.lt_succ_self _) HTL9.out (by decide) (by decide)
                          rw [← HR.out] at h
                          exact h⟩
                        clear HS1 HS2
                        go_wp2_with fail
                        rw [← hw14]
                        refine HRUN.out.mono ?_
                        rintro _ w15 ⟨rfl, hb15⟩
                        have HB15 := Keep.mk (HB12.out.trans ((HB14.out.trans (hb15.mono HB14.out.size)).mono HB12.out.size))
                        have HX15 := Keep.mk ((hb15.block X (Nat.lt_of_lt_of_le (Array.getElem?_eq_some_iff.1 HX12.out).1 HB14.out.size)).trans ((HB14.out.block X (Array.getElem?_eq_some_iff.1 HX12.out).1).trans HX12.out))
                        have HB16 := Keep.mk (HB15.out.trans ((Below.refl w15.heap.size w15).alloc (Nat.le_refl _) (.cells #[.string (mkS r.1), .int .i64 (r.2.1 : Int), .int .i64 (r.2.2 : Int)] 35) |>.mono HB15.out.size))
                        have hy := heap_alloc_new w15 (.cells #[.string (mkS r.1), .int .i64 (r.2.1 : Int), .int .i64 (r.2.2 : Int)] 35)
                        have HX16 := Keep.mk (((Below.refl w15.heap.size w15).alloc (Nat.le_refl _) (.cells #[.string (mkS r.1), .int .i64 (r.2.1 : Int), .int .i64 (r.2.2 : Int)] 35) |>.block X (Array.getElem?_eq_some_iff.1 HX15.out).1).trans HX15.out)
                        clear hb15 HB14 HRUN HSZ hw14 HX15 HX12 HB15 HB12
                        go_upto_region 56 with (fail)
                        have HY16 := Keep.mk hy
                        clear hy
                        generalize (w15.alloc (.cells #[.string (mkS r.1), .int .i64 (r.2.1 : Int), .int .i64 (r.2.2 : Int)] 35)) = w16 at *
                        generalize w15.heap.size = Y at *
                        have hX := HX16.out
                        have hY := HY16.out
                        have x0 : w16.cell? ⟨X, 0, none⟩ = some (.string (mkS r.1)) := by simp [World.cell?, hX]
                        have x1 : w16.cell? ⟨X, 1, none⟩ = some (.int .i64 (r.2.1 : Int)) := by simp [World.cell?, hX]
                        have x2 : w16.cell? ⟨X, 2, none⟩ = some (.int .i64 (r.2.2 : Int)) := by simp [World.cell?, hX]
                        have xl : X < w16.heap.size := (Array.getElem?_eq_some_iff.1 hX).1
                        have y0 : w16.cell? ⟨Y, 0, none⟩ = some (.string (mkS r.1)) := by simp [World.cell?, hY]
                        have y1 : w16.cell? ⟨Y, 1, none⟩ = some (.int .i64 (r.2.1 : Int)) := by simp [World.cell?, hY]
                        have y2 : w16.cell? ⟨Y, 2, none⟩ = some (.int .i64 (r.2.2 : Int)) := by simp [World.cell?, hY]
                        have yl : Y < w16.heap.size := (Array.getElem?_eq_some_iff.1 hY).1
                        have HPX := Keep.mk (pad_has HTOT.out.2)
                        have HBW := Keep.mk (HBT.out _ HB16.out)
                        clear hX hY
                        go_wp2_with fail
                        refine (Tryz.strings_HasPrefix T code w16).mono ?_
                        rintro _ wz ⟨rfl, hw⟩
                        obtain rfl : w16 = wz := hw.symm
                        rw [HPX.out]
                        have hgd := fun (wx : World) => run_eqGuard_agg wx .eql 35 (.tmp 215) (.tmp 216) #[.string (mkS r.1), .int .i64 (r.2.1 : Int), .int .i64 (r.2.2 : Int)] #[.string (mkS r.1), .int .i64 (r.2.1 : Int), .int .i64 (r.2.2 : Int)] Tryz.guardOut
                        have heq := fun (wx : World) => run_eql_out wx (mkS r.1) (r.2.1 : Int) (r.2.2 : Int)
                        go_wp2_with fail
                        refine HBW.out.mono ?_
                        rintro _ w17 ⟨rfl, hb17⟩
                        have HBZ := Keep.mk (HB16.out.trans (hb17.mono HB16.out.size))
                        clear hb17 x0 x1 x2 xl y0 y1 y2 yl hgd heq
                        go_wp2_with fail
                        go_ret
                        exact ⟨rfl, HBZ.out⟩
                      · have hml1 : 0 < (missL j' idx).length := List.length_pos_iff.2 hms
                        have HMN : Keep (missL tot xs ≠ []) := ⟨by rw [hxs]; exact miss_some HMEM.out (by rw [← HNN.out]; exact hms)⟩
                        have HMA : Keep (∀ i ∈ missL tot xs, i < tot ∧ i / 4 ∉ idx) := ⟨fun i hi => by rw [hxs] at hi; exact miss_at HMEM.out hi⟩
                        rw [← hxs] at HBO HLOAD HF
                        rw [bootC, if_neg HF.out, if_neg HMN.out] at HBO
                        have HBO2 : Keep (Calls Tryz.prog 8 #[.slice p6 idx6.length p6c, .int .u32 7, .int .i64 20000] w8 fun e w' => e = .returned (.agg #[.string ⟨#[]⟩, .int .i64 19, .int .i64 0]) ∧ Below w8.heap.size w8 w') := ⟨HBO.out⟩
                        clear hxs hms hid HBO h60
                        generalize (missL j' idx).length = ml at *
                        generalize idx6.length = n6 at *
                        go_wp2_with fail
                        refine HBO2.out.mono ?_
                        rintro _ w9 ⟨rfl, hb9⟩
                        have HB9 := Keep.mk (hb9.trans ((Below.refl w9.heap.size w9).alloc (Nat.le_refl _) (.cells #[.string ⟨#[]⟩, .int .i64 19, .int .i64 0] 35) |>.mono hb9.size))
                        have hx := heap_alloc_new w9 (.cells #[.string ⟨#[]⟩, .int .i64 19, .int .i64 0] 35)
                        clear hb9 HBO2
                        go_wp2_with fail
                        have HX := Keep.mk hx
                        clear hx
                        generalize (w9.alloc (.cells #[.string ⟨#[]⟩, .int .i64 19, .int .i64 0] 35)) = w10 at *
                        generalize w9.heap.size = X at *
                        refine (HLOAD.out _ HB9.out).mono ?_
                        rintro e w11 ⟨hb11, he⟩
                        rw [if_neg HF.out, if_neg HMN.out] at he
                        obtain ⟨nv, rfl, hnv⟩ := he
                        have HX11 := Keep.mk ((hb11.block X (Array.getElem?_eq_some_iff.1 HX.out).1).trans HX.out)
                        have HLF11 := Keep.mk (ownsRow_below HLF8.out (HB9.out.trans (hb11.mono HB9.out.size)))
                        have HB11 := Keep.mk (HB8.out.trans ((HB9.out.trans (hb11.mono HB9.out.size)).mono HB8.out.size))
                        have HNV := Keep.mk hnv
                        have hnl : 0 < (missL tot xs).length := List.length_pos_iff.2 HMN.out
                        have hn15 : (missL tot xs).length ≤ 15 := by
                          unfold missL
                          exact Nat.le_trans (List.length_filter_le _ _) (by rw [List.length_range]; omega)
                        obtain ⟨nl, hnle⟩ : ∃ nl, nl = (missL tot xs).length := ⟨_, rfl⟩
                        rw [← hnle] at HNV hnl hn15
                        have HNL := Keep.mk hnle
                        obtain ⟨na, nc, rfl⟩ := ownsRow_slice HNV.out
                        clear hb11 hnv HB9 HX HLF8 HLOAD hnle
                        go_wp2_with fail
                        go_loopw [164, 28] (fun i _ wr => ∃ t : Nat, i = .int .i64 t ∧ t ≤ nl ∧ Keep (Below w11.heap.size w11 wr)) (fun i _ _ => nl - (intOf i).toNat)
                        case atStart => exact ⟨0, rfl, Nat.zero_le _, ⟨Below.refl _ _⟩⟩
                        case round =>
                          obtain ⟨t, rfl, ht, HBt⟩ := hrel
                          by_cases htn : t < nl
                          · have k2 : (t : Int) < nl := by omega
                            have hrow := ownsRow_below HNV.out HBt.out
                            obtain ⟨ng, nc2, hsv, hn1, hn2⟩ := ownsRow_lead hrow hnl
                            simp only [Value.slice.injEq] at hsv
                            obtain ⟨rfl, -, rfl⟩ := hsv
                            obtain ⟨i, hi⟩ : ∃ i, (missL tot xs)[t]? = some i := ⟨_, List.getElem?_eq_getElem (by rw [← HNL.out]; exact htn)⟩
                            have hmi := HMA.out i (List.mem_of_getElem? hi)
                            have cn : wr.cell? ⟨ng, t, none⟩ = some (.int .i64 (i : Int)) := by
                              rw [hrow.cellAt t (by omega)]
                              unfold numCells
                              rw [List.getElem?_map, hi]
                              rfl
                            have nl2 := (hrow.lt ng rfl).2
                            have hlf := ownsRow_below HLF11.out HBt.out
                            have hi4 : i / 4 < j' := by have := HNN.out; omega
                            have cl := (hlf.cellAt (i / 4) (by omega)).trans (cnt_get j' idx (i / 4) hi4)
                            rw [List.count_eq_zero.2 hmi.2] at cl
                            have gl := (hlf.lt g rfl).2
                            have hq4 : (i : Int).tdiv 4 = ((i / 4 : Nat) : Int) := rfl
                            have hq4e : (i : Int) / 4 = ((i / 4 : Nat) : Int) := rfl
                            have hi15 : i ≤ 15 := by omega
                            clear hrow hlf hi hmi
                            generalize i / 4 = Q at *
                            unfold maxLen at hn2
                            have hQw : IntKind.i64.wrap (Q : Int) = Q := IntWalk.i64_in _ (by omega)
                            go_wp2_with fail
                            go_roundw
                            case rel => exact ⟨t + 1, by push_cast; rfl, by omega, HBt⟩
                            case measure => simp only [intOf]; omega
                          · obtain rfl : t = nl := by omega
                            have hX := (HBt.out.block X (Array.getElem?_eq_some_iff.1 HX11.out).1).trans HX11.out
                            have HBW := Keep.mk (HB11.out.trans (HBt.out.mono HB11.out.size))
                            have x0 : wr.cell? ⟨X, 0, none⟩ = some (.string ⟨#[]⟩) := by simp [World.cell?, hX]
                            have x1 : wr.cell? ⟨X, 1, none⟩ = some (.int .i64 19) := by simp [World.cell?, hX]
                            have x2 : wr.cell? ⟨X, 2, none⟩ = some (.int .i64 0) := by simp [World.cell?, hX]
                            have xl : X < wr.heap.size := (Array.getElem?_eq_some_iff.1 hX).1
                            have t0 : (0 : Int) < t := by omega
                            have HBO3 := Keep.mk (HBT.out _ HBW.out)
                            clear hX
                            go_wp2_with fail
                            refine HBO3.out.mono ?_
                            rintro _ w12 ⟨rfl, hb12⟩
                            have HBZ := Keep.mk (HBW.out.trans (hb12.mono HBW.out.size))
                            clear hb12 x0 x1 x2 xl
                            go_wp2_with fail
                            go_ret
                            exact ⟨rfl, HBZ.out⟩
end Go.Proofs.YtojgopbaiflfgaaGreatDoor
