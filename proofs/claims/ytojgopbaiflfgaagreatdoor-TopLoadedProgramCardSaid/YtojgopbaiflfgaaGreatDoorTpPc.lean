/- bootstrap.Strips of a short program text. Condition: at most 900 signs; the table of powers of ten lies. Pieces of reels: what frames stand in them; what Load holds while it reads them. No condition. -/
import Derived.Test.YtojgopbaiflfgaaGreatDoorTpSplit
import Derived.Test.YtojgopbaiflfgaaGreatDoorBuilder
import Derived.Test.YtojgopbaiflfgaaGreatDoorMaps
import Derived.RangeFuncBox
namespace Go.Proofs.YtojgopbaiflfgaaGreatDoor
set_option maxRecDepth 100000
open Go.RowKit Go.Shelf

/-- A row of the call's own, opened: its block, its cells. -/
theorem row_open {w : World} {base : Nat} {e : TypeId} {size n : Nat} {v : Value} {xs : List Value} (h : w.ownsRow base e size v n xs) :
    ∃ a b cap, v = .slice a n cap ∧ (0 < n → a = some ⟨b, 0, none⟩ ∧ b < w.heap.size) ∧ n ≤ cap ∧ cap ≤ maxLen ∧ ∀ j u, xs[j]? = some u → w.cell? ⟨b, j, none⟩ = some u := by
  obtain ⟨hl, ⟨rfl, rfl⟩ | ⟨g, cap, cur, rfl, hb, hh, h1, h2, h3, ht⟩⟩ := h
  · refine ⟨none, 0, 0, rfl, fun h => absurd h (Nat.lt_irrefl 0), Nat.le_refl _, by decide, fun j u hu => ?_⟩
    obtain rfl : xs = [] := List.eq_nil_of_length_eq_zero (by omega)
    simp at hu
  · refine ⟨_, g, cap, rfl, fun _ => ⟨rfl, (Array.getElem?_eq_some_iff.1 hh).1⟩, h1, h2, fun j u hu => ?_⟩
    simp only [World.cell?, hh]
    rw [← ht, List.getElem?_take] at hu
    split at hu
    · simpa using hu
    · cases hu
theorem ownsRow_below {w w' : World} {base : Nat} {e : TypeId} {size n : Nat} {v : Value} {xs : List Value} (h : w.ownsRow base e size v n xs) (hb : Below w.heap.size w w') : w'.ownsRow base e size v n xs := by
  obtain ⟨hl, h | ⟨g, cap, cur, hv, hg, hh, r⟩⟩ := h
  · exact ⟨hl, .inl h⟩
  · exact ⟨hl, .inr ⟨g, cap, cur, hv, hg, (hb.block g (Array.getElem?_eq_some_iff.1 hh).1).trans hh, r⟩⟩
theorem rowsP_length (arch tot : Nat) (T : ByteArray) : ∀ n, (rowsP arch tot T n).length = 4 * n
  | 0 => rfl
  | n + 1 => by rw [rowsP_step, List.length_append, rowsP_length arch tot T n]; simp [rowP]; omega
theorem rowsP_get (arch tot : Nat) (T : ByteArray) : ∀ (n i t : Nat), i < n → t < 4 → (rowsP arch tot T n)[4 * i + t]? = (rowP arch tot T i)[t]?
  | 0, i, t, h, _ => absurd h (Nat.not_lt_zero i)
  | n + 1, i, t, h, ht => by
    rw [rowsP_step]
    by_cases hi : i < n
    · rw [List.getElem?_append_left (by rw [rowsP_length]; omega)]
      exact rowsP_get arch tot T n i t hi ht
    · obtain rfl : i = n := by omega
      rw [List.getElem?_append_right (by rw [rowsP_length]; omega), rowsP_length]
      congr 1
      omega
/-- The cells of n frames from the a-th on. -/
def framesL (arch tot : Nat) (T : ByteArray) (a n : Nat) : List UInt8 := (List.range n).flatMap fun q => encL arch (a + q) tot (pieceT T (a + q)).data.toList
theorem framesL_step (arch tot : Nat) (T : ByteArray) (a n : Nat) : framesL arch tot T a (n + 1) = framesL arch tot T a n ++ encL arch (a + n) tot (pieceT T (a + n)).data.toList := by
  unfold framesL
  rw [List.range_succ, List.flatMap_append]
  simp
theorem encL_length (arch idx tot : Nat) (text : ByteArray) (ha : arch < 4294967296) (h : PieceOk idx tot text) : (encL arch idx tot text.data.toList).length = 768 := by
  unfold encL
  have h1 := headL_length arch idx tot text ha h
  have h2 : (padD 10 (sumC (headL arch idx tot text.data.toList)).toNat).length = 10 := padD_exact 10 _ (by omega) (by have := (sumC (headL arch idx tot text.data.toList)).isLt; omega)
  rw [List.length_append, cellsL_length]
  unfold sealL
  rw [List.length_append, h1, h2]
  rfl
theorem framesL_length (arch tot : Nat) (T : ByteArray) (ha : arch < 4294967296) (a : Nat) : ∀ n, (∀ i, i < a + n → PieceOk i tot (pieceT T i)) → (framesL arch tot T a n).length = 768 * n
  | 0, _ => rfl
  | n + 1, h => by
    rw [framesL_step, List.length_append, framesL_length arch tot T ha a n (fun i hi => h i (by omega)), encL_length arch _ tot _ ha (h _ (by omega))]
    omega
def stripOf (arch tot : Nat) (T : ByteArray) (j : Nat) : ByteArray := mkS (framesL arch tot T (4 * j) (min 4 (tot - 4 * j)))
def stripsTo (arch tot : Nat) (T : ByteArray) (m : Nat) : List ByteArray := (List.range m).map (stripOf arch tot T)
theorem stripsTo_step (arch tot : Nat) (T : ByteArray) (m : Nat) : stripsTo arch tot T (m + 1) = stripsTo arch tot T m ++ [stripOf arch tot T m] := by
  unfold stripsTo
  rw [List.range_succ, List.map_append]
  rfl
/-- The strips of a program text. -/
def stripsL (arch : Nat) (c : ByteArray) : List ByteArray := stripsTo arch (totC c.size) (padT c) ((totC c.size + 3) / 4)
theorem strips_bad (c : ByteArray) (arch : Int) (hs : c.size ≤ 900) (hp : printB c = false) (w : World) :
    Calls Tryz.prog 5 #[.string c, .int .u32 arch] w fun e w' => e = .returned (.tuple #[.slice none 0 0, .int .i64 3]) ∧ w' = w := by
  have HS := Keep.mk (split_bad c arch hs hp)
  clear hp
  go_enter Tryz.func5, Tryz.ntmps5
  go_wp2_with fail
  refine (HS.out _).mono ?_
  rintro _ w2 ⟨rfl, rfl⟩
  go_wp2_with fail
  go_ret2
  exact ⟨rfl, rfl⟩
set_option maxHeartbeats 8000000 in
theorem strips_any (c : ByteArray) (arch : Nat) (ha : arch < 4294967296) (hs : c.size ≤ 900) (hp : printB c = true) (w : World) (htab : Tab w) :
    Calls Tryz.prog 5 #[.string c, .int .u32 arch] w fun e w' => ∃ v, e = .returned (.tuple #[v, .int .i64 0]) ∧ OwnStrs w.heap.size w' v (stripsL arch c) ∧ Below w.heap.size w w' := by
  obtain ⟨tot, hto⟩ : ∃ tot, tot = totC c.size := ⟨_, rfl⟩
  obtain ⟨T, hT⟩ : ∃ T, T = padT c := ⟨_, rfl⟩
  have htl : tot ≤ 15 := by rw [hto]; unfold totC; omega
  have HOK : Keep (∀ i, i < tot → PieceOk i tot (pieceT T i)) := ⟨fun i hi => by rw [hto, hT]; exact pieceOk c hp hs i (by omega)⟩
  have HSP := Keep.mk (fun w => split_any c arch hs hp w)
  rw [← hto, ← hT] at HSP
  have HRES : Keep (stripsL arch c = stripsTo arch tot T ((tot + 3) / 4)) := ⟨by unfold stripsL; rw [← hto, ← hT]⟩
  have HTAB := Keep.mk htab
  clear hto hT hp htab
  go_enter Tryz.func5, Tryz.ntmps5
  go_wp2_with fail
  refine (HSP.out _).mono ?_
  rintro _ w1 ⟨v1, rfl, hr1, hb1⟩
  obtain ⟨pa, pb, pc, rfl, hpa, hpc1, hpc2, hcell⟩ := row_open hr1
  have HG := Keep.mk (groups_any pb 0 tot pc pa (fun h => (hpa h).1) hpc1 (by omega) w1)
  have HB1 := Keep.mk hb1
  have HC1 : Keep (∀ i t, i < tot → t < 4 → w1.cell? ⟨pb, 4 * i + t, none⟩ = (rowP arch tot T i)[t]?) := ⟨fun i t hi ht => by
    rw [hcell _ _ ((rowsP_get arch tot T tot i t hi ht).trans (List.getElem?_eq_getElem (by simpa [rowP] using ht)))]
    rw [List.getElem?_eq_getElem]⟩
  have HPB : Keep (0 < tot → pb < w1.heap.size) := ⟨fun h => (hpa h).2⟩
  clear hr1 hb1 hpa hcell HSP hpc1 hpc2
  go_wp2_with fail
  refine HG.out.mono ?_
  rintro _ w2 ⟨v2, rfl, hr2, hb2⟩
  obtain ⟨ga, gb, gc, rfl, hga, hgc1, hgc2, hcell⟩ := row_open hr2
  have HB2 := Keep.mk (HB1.out.trans (hb2.mono HB1.out.size))
  have HC2 : Keep (∀ i t, i < tot → t < 4 → w2.cell? ⟨pb, 4 * i + t, none⟩ = (rowP arch tot T i)[t]?) := ⟨fun i t hi ht => (hb2.cell (p := ⟨pb, 4 * i + t, none⟩) (HPB.out (by omega))).trans (HC1.out i t hi ht)⟩
  have HPB2 : Keep (0 < tot → pb < w2.heap.size) := ⟨fun h => Nat.lt_of_lt_of_le (HPB.out h) hb2.size⟩
  have HGC : Keep (∀ j, j < (tot + 3) / 4 → ga = some ⟨gb, 0, none⟩ ∧ gb < w2.heap.size ∧ w2.cell? ⟨gb, j, none⟩ = some (grpV pb 0 tot pc j)) := ⟨fun j hj => ⟨(hga (by omega)).1, (hga (by omega)).2, hcell j _ (by unfold grps; rw [List.getElem?_map, List.getElem?_range hj]; rfl)⟩⟩
  obtain ⟨m, hm⟩ : ∃ m, m = (tot + 3) / 4 := ⟨_, rfl⟩
  rw [← hm] at HRES HGC hgc1 ⊢
  have HM := Keep.mk hm
  unfold maxLen at hgc2
  have hm4 : m ≤ 4 := by omega
  clear hr2 hb2 hga hcell HG HB1 HC1 HPB hm
  go_wp2_with fail
  go_loopw [8, 28] (fun v i wr => ∃ j : Nat, j ≤ m ∧ i = .int .i64 j ∧ Keep (OwnStrs w2.heap.size wr v (stripsTo arch tot T j)) ∧ Keep (Below w2.heap.size w2 wr)) (fun _ i _ => m - (intOf i).toNat)
  case atStart => exact ⟨0, Nat.zero_le _, rfl, ⟨OwnStrs.nil _ _⟩, ⟨Below.refl _ _⟩⟩
  case round =>
    obtain ⟨j, hj, rfl, HO, HB⟩ := hrel
    by_cases hlt : j < m
    · have k0 : (j : Int) < m := by omega
      obtain ⟨rfl, hgb, hg⟩ := HGC.out j hlt
      have hg1 := (HB.out.cell (p := ⟨gb, j, none⟩) hgb).trans hg
      have hg2 : gb < wr.heap.size := Nat.lt_of_lt_of_le hgb HB.out.size
      have hln : min 4 (tot - 4 * j) ≤ 4 := by omega
      have HLN : Keep (4 * j + min 4 (tot - 4 * j) ≤ tot) := ⟨by have := HM.out; omega⟩
      have HST : Keep (stripOf arch tot T j = mkS (framesL arch tot T (4 * j) (min 4 (tot - 4 * j)))) := ⟨rfl⟩
      unfold grpV at hg1
      generalize min 4 (tot - 4 * j) = ln at *
      rw [Nat.zero_add] at hg1
      clear hg hgb
      go_upto_region 9 with (fail)
      have HH0 := Keep.mk (builder_fresh wr)
      have HB0 : Keep (Below wr.heap.size wr (wr.alloc (.cells #[.pointer none, .slice none 0 0] 56))) := ⟨(Below.refl _ _).alloc (Nat.le_refl _) _⟩
      have HZ0 : Keep (wr.heap.size < (wr.alloc (.cells #[.pointer none, .slice none 0 0] 56)).heap.size) := ⟨by simp⟩
      generalize (wr.alloc (.cells #[.pointer none, .slice none 0 0] 56)) = wB at *
      obtain ⟨Bd, hBd⟩ : ∃ Bd, Bd = wr.heap.size := ⟨_, rfl⟩
      have HBD := Keep.mk hBd
      rw [← hBd] at HH0 HB0 HZ0 ⊢
      have HPS : Keep (0 < tot → pb < Bd) := ⟨fun h => by rw [hBd]; exact Nat.lt_of_lt_of_le (HPB2.out h) HB.out.size⟩
      generalize wr = wo at *
      clear hg1 hg2 hBd
      go_wp2_with fail
      go_loopw [34] (fun i wq => ∃ q : Nat, q ≤ ln ∧ i = .int .i64 q ∧ Keep (Holds Bd Bd (framesL arch tot T (4 * j) q) wq) ∧ Keep (Below Bd wo wq) ∧ Bd < wq.heap.size) (fun i _ => ln - (intOf i).toNat)
      case atStart => exact ⟨0, Nat.zero_le _, rfl, HH0, HB0, HZ0.out⟩
      case round =>
        obtain ⟨q, hq, rfl, HH, HQ, hz⟩ := hrel
        by_cases hql : q < ln
        · have q0 : (q : Int) < ln := by omega
          have hqt : 4 * j + q < tot := by have := HLN.out; omega
          have hc : ∀ t, t < 4 → wr.cell? ⟨pb, 16 * j + q * 4 + t, none⟩ = (rowP arch tot T (4 * j + q))[t]? := fun t ht => by
            have h1 := HC2.out (4 * j + q) t hqt ht
            rw [show 4 * (4 * j + q) + t = 16 * j + q * 4 + t by omega] at h1
            have h2 := HPS.out (by omega)
            exact ((HQ.out.cell (p := ⟨pb, 16 * j + q * 4 + t, none⟩) h2).trans (HB.out.cell (p := ⟨pb, 16 * j + q * 4 + t, none⟩) (HPB2.out (by omega)))).trans h1
          have c0 := hc 0 (by decide)
          have c1 := hc 1 (by decide)
          have c2 := hc 2 (by decide)
          have c3 := hc 3 (by decide)
          rw [Nat.add_zero] at c0
          simp only [rowP, List.getElem?_cons_zero, List.getElem?_cons_succ] at c0 c1 c2 c3
          have hpl : pb < wr.heap.size := by have := HPS.out (by omega); omega
          clear hc
          have HOKq := Keep.mk (HOK.out _ hqt)
          have HFL : Keep ((framesL arch tot T (4 * j) q).length = 768 * q) := ⟨framesL_length arch tot T ha (4 * j) q (fun i hi => HOK.out i (by omega))⟩
          have HSTEP : Keep (framesL arch tot T (4 * j) (q + 1) = framesL arch tot T (4 * j) q ++ (mkS (encL arch (4 * j + q) tot (pieceT T (4 * j + q)).data.toList)).data.toList) := ⟨by rw [framesL_step, data_mkS]⟩
          clear hqt
          generalize 4 * j + q = I at *
          have HENC := Keep.mk (fun w ht => encode_any arch I tot (pieceT T I) ha HOKq.out w ht)
          have HENL : Keep ((mkS (encL arch I tot (pieceT T I).data.toList)).size = 768) := ⟨by rw [mkS_size]; exact encL_length arch _ tot _ ha HOKq.out⟩
          generalize mkS (encL arch I tot (pieceT T I).data.toList) = F at *
          generalize pieceT T I = X at *
          go_upto_region 12 with (fail)
          have hY := heap_alloc_new wr (.cells #[.int .u32 arch, .int .i64 I, .int .i64 tot, .string X] 53)
          have hbb : Below wr.heap.size wr (wr.alloc (.cells #[.int .u32 arch, .int .i64 I, .int .i64 tot, .string X] 53)) := (Below.refl _ _).alloc (Nat.le_refl _) _
          have HHb := Keep.mk (HH.out.below hbb)
          have HQb := Keep.mk (HQ.out.trans (hbb.mono (Nat.le_of_lt hz)))
          generalize (wr.alloc (.cells #[.int .u32 arch, .int .i64 I, .int .i64 tot, .string X] 53)) = wb at *
          generalize wr.heap.size = Y at *
          have y0 : wb.cell? ⟨Y, 0, none⟩ = some (.int .u32 arch) := by simp [World.cell?, hY]
          have y1 : wb.cell? ⟨Y, 1, none⟩ = some (.int .i64 I) := by simp [World.cell?, hY]
          have y2 : wb.cell? ⟨Y, 2, none⟩ = some (.int .i64 tot) := by simp [World.cell?, hY]
          have y3 : wb.cell? ⟨Y, 3, none⟩ = some (.string X) := by simp [World.cell?, hY]
          have yl : Y < wb.heap.size := (Array.getElem?_eq_some_iff.1 hY).1
          have HTB : Keep (Tab wb) := ⟨HTAB.out.below ((HB2.out.trans (HB.out.mono HB2.out.size)).trans (HQb.out.mono (by rw [HBD.out]; exact Nat.le_trans HB2.out.size HB.out.size)))⟩
          clear hY hbb c0 c1 c2 c3 hpl HH HQ HOKq
          go_wp2_with fail
          refine (HENC.out wb HTB.out).mono ?_
          rintro _ wc ⟨rfl, hbc⟩
          have HHc := Keep.mk (HHb.out.below hbc)
          have HQc := Keep.mk (HQb.out.trans (hbc.mono (by omega)))
          have hzc : Bd < wc.heap.size := by have := hbc.size; omega
          clear hbc HHb HQb y0 y1 y2 y3 yl HTB HENC
          go_wp2_with fail
          refine (writeString_any Bd Bd _ F wc HHc.out (by have := HFL.out; have := HENL.out; omega) (by omega)).mono ?_
          rintro _ wd ⟨rfl, hHd, hbd, _⟩
          have HHd := Keep.mk hHd
          have HQd := Keep.mk (HQc.out.trans hbd)
          have hzd : Bd < wd.heap.size := by have := hbd.size; omega
          clear hHd hbd HHc HQc
          go_wp2_with fail
          go_roundw
          case rel => exact ⟨q + 1, by omega, by go_num, ⟨by rw [HSTEP.out]; exact HHd.out⟩, HQd, hzd⟩
          case measure => simp [intOf]; omega
        · obtain rfl : q = ln := by omega
          have HHq := HH
          unfold Holds at HHq
          have HSB := Keep.mk (Tryz.Builder_String_any Bd Bd _ wr HHq.out (by omega))
          have HN := Keep.mk (Nat.le_trans HB2.out.size HB.out.size)
          have HQ2 : Keep (OwnStrs w2.heap.size wr u8 (stripsTo arch tot T j)) := ⟨ownsRow_below HO.out (by rw [← HBD.out]; exact HQ.out)⟩
          go_wp2_with fail
          refine HSB.out.mono ?_
          rintro _ we ⟨rfl, hbe⟩
          have HO3 : Keep (OwnStrs w2.heap.size we u8 (stripsTo arch tot T j)) := ⟨ownsRow_below HO.out (by rw [← HBD.out]; exact HQ.out.trans hbe)⟩
          have HB3 : Keep (Below w2.heap.size w2 we) := ⟨HB.out.trans ((HQ.out.trans hbe).mono (by rw [HBD.out]; exact HB.out.size))⟩
          have HSE : Keep ((⟨(framesL arch tot T (4 * j) q).toArray⟩ : ByteArray) = stripOf arch tot T j) := ⟨by rw [HST.out]; rfl⟩
          rw [HSE.out]
          have HNe : Keep (w2.heap.size ≤ we.heap.size) := ⟨HB3.out.size⟩
          have HLJ : Keep ((stripsTo arch tot T j).length = j) := ⟨by simp [stripsTo]⟩
          clear HSB HQ2 HHq hbe
          go_wp2_with (at_builtin; go_must (refine wpList_append_ownstrs rfl _ _ rfl (base := w2.heap.size) rfl (HO3.out.alloc _) rfl (Strs.made _ [stripOf arch tot T j] 9 (show (1 : Nat) ≤ maxLen by decide)) (by rw [HLJ.out]; show j + 1 ≤ 1000000; omega) (by have := HNe.out; simp; omega) ?_); intro v9 w9 hO9 hB9; have H9 := Keep.mk (And.intro hO9 hB9); clear hO9 hB9)
          go_roundw
          case rel => exact ⟨j + 1, by omega, by go_num, ⟨by rw [stripsTo_step]; exact H9.out.1⟩, ⟨(HB3.out.alloc HNe.out _).trans H9.out.2⟩⟩
          case measure => simp [intOf]; omega
    · obtain rfl : j = m := by omega
      go_wp2_with fail
      go_ret2
      exact ⟨u8, rfl, by rw [HRES.out]; exact ownsRow_base HO.out HB2.out.size, HB2.out.trans (HB.out.mono HB2.out.size)⟩

/-- A piece: its cells, its first frame, how many frames. -/
abbrev Pc := ByteArray × Nat × Nat
def fsOf (ps : List Pc) : List Nat := ps.flatMap fun p => (List.range p.2.2).map (p.2.1 + ·)
theorem fsOf_append (a b : List Pc) : fsOf (a ++ b) = fsOf a ++ fsOf b := by simp [fsOf]
structure GoodP (arch tot : Nat) (T : ByteArray) (p : Pc) : Prop where
  lo : 768 * p.2.2 ≤ p.1.size
  hi : p.1.size < 768 * p.2.2 + 768
  n4 : p.2.2 ≤ 4
  pl : ∀ k, k + 768 ≤ p.1.size → isPlainB p.1 k = decide (k % 768 = 0)
  ok : ∀ q, q < p.2.2 → PieceOk (p.2.1 + q) tot (pieceT T (p.2.1 + q))
  cut : ∀ q, q < p.2.2 → p.1.extract (768 * q + 16) (768 * q + 768) = mkS (cellsL (sealL (headL arch (p.2.1 + q) tot (pieceT T (p.2.1 + q)).data.toList)))
/-- The texts by their numbers, as a map's entries. -/
def mapT (T : ByteArray) (pre : List Nat) : List (Int × Value) := pre.foldl (fun (m : List (Int × Value)) (i : Nat) => putL (i : Int) (.string (pieceT T i)) m) []
theorem mapT_snoc (T : ByteArray) (pre : List Nat) (i : Nat) : mapT T (pre ++ [i]) = putL (i : Int) (.string (pieceT T i)) (mapT T pre) := by
  unfold mapT
  rw [List.foldl_append]
  rfl
theorem look_mapT (T : ByteArray) (i : Nat) (pre : List Nat) : lookL (i : Int) (mapT T pre) = if i ∈ pre then some (.string (pieceT T i)) else none := by
  suffices h : ∀ (r : List Nat), lookL (i : Int) (mapT T r.reverse) = if i ∈ r then some (.string (pieceT T i)) else none by
    have := h pre.reverse
    rw [List.reverse_reverse] at this
    rw [this]
    simp
  intro r
  induction r with
  | nil => rfl
  | cons x r ih =>
    rw [List.reverse_cons, mapT_snoc, look_put, ih]
    by_cases hx : i = x
    · subst hx
      simp
    · rw [if_neg (by omega)]
      simp [hx]
def totB (tot : Nat) (pre : List Nat) : Int := if pre = [] then 0 else tot
noncomputable abbrev kInt := intKey (P := Tryz.prog) Tryz.underlying3
/-- What Load holds between two frames. -/
structure LdIn (W0 : World) (b4 b5 b6 b7 b8 M bA : Nat) (arch tot : Nat) (T : ByteArray) (pre : List Nat) (W : World) : Prop where
  r4 : Boxed W b4 9 (.string ⟨#[]⟩)
  r5 : Boxed W b5 30 (.slice none 0 0)
  r6 : Boxed W b6 26 (.int .i64 0)
  tt : Boxed W b7 3 (.int .i64 (totB tot pre))
  tx : Boxed W b8 66 (.map (some M))
  mp : MapIs kInt W M (mapT T pre)
  ar : Boxed W bA 29 (.int .u32 arch)
  bel : Below W0.heap.size W0 W
section
variable {W0 : World} {b4 b5 b6 b7 b8 M bA : Nat} {arch tot : Nat} {T : ByteArray}
theorem MapIs.lt' {κ : Type} [DecidableEq κ] {P : Program} {kt : TypeId} {K : KeyK κ P kt} {w : World} {b : Nat} {l : List (κ × Value)} (h : MapIs K w b l) : b < w.heap.size := by
  obtain ⟨es, clock, h1, _⟩ := h
  exact (Array.getElem?_eq_some_iff.1 h1).1
theorem MapIs.block {κ : Type} [DecidableEq κ] {P : Program} {kt : TypeId} {K : KeyK κ P kt} {w w' : World} {b : Nat} {l : List (κ × Value)} (h : MapIs K w b l) (hb : w'.heap[b]? = w.heap[b]?) : MapIs K w' b l := by
  obtain ⟨es, clock, h1, h2⟩ := h
  exact ⟨es, clock, hb.trans h1, h2⟩
theorem LdIn.keep {pre : List Nat} {W W' : World} (h : LdIn W0 b4 b5 b6 b7 b8 M bA arch tot T pre W) (hb : Below W0.heap.size W W') (hk : ∀ k, k < W.heap.size → k = b4 ∨ k = b5 ∨ k = b6 ∨ k = b7 ∨ k = b8 ∨ k = M ∨ k = bA → W'.heap[k]? = W.heap[k]?) : LdIn W0 b4 b5 b6 b7 b8 M bA arch tot T pre W' :=
  ⟨(hk _ h.r4.lt (by simp)).trans h.r4, (hk _ h.r5.lt (by simp)).trans h.r5, (hk _ h.r6.lt (by simp)).trans h.r6, (hk _ h.tt.lt (by simp)).trans h.tt, (hk _ h.tx.lt (by simp)).trans h.tx, h.mp.block (hk _ h.mp.lt' (by simp)), (hk _ h.ar.lt (by simp)).trans h.ar, h.bel.trans hb⟩
theorem LdIn.below {pre : List Nat} {W W' : World} (h : LdIn W0 b4 b5 b6 b7 b8 M bA arch tot T pre W) (hb : Below W.heap.size W W') : LdIn W0 b4 b5 b6 b7 b8 M bA arch tot T pre W' :=
  h.keep (hb.mono h.bel.size) (fun k hk _ => hb.block k hk)
theorem LdIn.own {B : Nat} (hB : W0.heap.size ≤ B) (hM : M < B) : OwnFrom B (LdIn W0 b4 b5 b6 b7 b8 M bA arch tot T) := by
  intro pre W W' row h hg hr
  have key : ∀ {b : Nat} {t : TypeId} {v : Value}, Boxed W b t v → W'.heap[b]? = W.heap[b]? := fun {b t v} hx => by
    refine hg.block b hx.lt (fun e => ?_)
    obtain ⟨_, o, ho, hc⟩ := hr b e.symm
    have hx' : W.heap[b]? = some _ := hx
    rw [hx'] at ho
    simp only [Option.some.injEq] at ho
    rw [← ho] at hc
    cases hc
  refine ⟨(key h.r4).trans h.r4, (key h.r5).trans h.r5, (key h.r6).trans h.r6, (key h.tt).trans h.tt, (key h.tx).trans h.tx, h.mp.block (hg.block M h.mp.lt' (fun e => ?_)), (key h.ar).trans h.ar, h.bel.grown hg h.bel.size (fun k e => ?_)⟩
  · have := (hr M e.symm).1
    omega
  · have := (hr k e).1
    omega
end
end Go.Proofs.YtojgopbaiflfgaaGreatDoor
