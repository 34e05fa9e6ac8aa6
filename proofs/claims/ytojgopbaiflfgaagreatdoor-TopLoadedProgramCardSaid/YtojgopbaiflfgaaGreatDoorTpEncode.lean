/- plainframe.Encode of a whole piece. Condition: the table of powers of ten lies; bounds. -/
import Derived.Test.YtojgopbaiflfgaaGreatDoorTpPrint
import Derived.Test.YtojgopbaiflfgaaGreatDoorTpDigits
import Derived.Deep.RegionHeld3
namespace Go.Proofs.YtojgopbaiflfgaaGreatDoor
set_option maxRecDepth 100000
open Go.RowKit Go.Shelf

/-- What a frame's text is sealed of. -/
def headL (arch idx tot : Nat) (text : List UInt8) : List UInt8 := ((padD 10 arch ++ padD 5 idx) ++ padD 5 tot) ++ text
/-- The cells of a plain frame. -/
def encL (arch idx tot : Nat) (text : List UInt8) : List UInt8 := markP.data.toList ++ cellsL (sealL (headL arch idx tot text))
theorem padD_length (n u : Nat) (hu : u < 18446744073709551616) (hn : n ≤ 20) : (padD n u).length ≤ 20 := by
  unfold padD
  have : (Lib.decDigits u).length ≤ 20 := by
    by_cases h : 1 ≤ u
    · exact decDigits_le u h hu
    · obtain rfl : u = 0 := by omega
      rw [Lib.decDigits_length, Lib.nDigits_small (by omega)]
      decide
  rw [List.length_append, List.length_replicate]
  omega
theorem nDigits_le : ∀ (n u : Nat), u < 10 ^ (n + 1) → Lib.nDigits u ≤ n + 1
  | 0, u, h => by rw [Lib.nDigits_small (by omega)]; omega
  | n + 1, u, h => by
    by_cases hs : u < 10
    · rw [Lib.nDigits_small hs]; omega
    · rw [Lib.nDigits_big hs]
      have := nDigits_le n (u / 10) (by rw [Nat.pow_succ] at h; omega)
      omega
theorem padD_exact (n u : Nat) (h0 : 0 < n) (h : u < 10 ^ n) : (padD n u).length = n := by
  obtain ⟨m, rfl⟩ : ∃ m, n = m + 1 := ⟨n - 1, by omega⟩
  have := nDigits_le m u h
  unfold padD
  rw [List.length_append, List.length_replicate, Lib.decDigits_length]
  omega
theorem mkS_append (a b : List UInt8) : mkS a ++ mkS b = mkS (a ++ b) := by
  unfold mkS
  apply ByteArray.ext
  rw [ByteArray.data_append]
  simp
theorem mkS_size (a : List UInt8) : (mkS a).size = a.length := by
  show a.toArray.size = _
  simp
theorem held_belowS {w w1 w2 : World} (h1 : Below w.heap.size w w1) (h2 : Below w1.heap.size w1 w2) : Below w.heap.size w w2 := h1.trans (h2.mono h1.size)
set_option maxHeartbeats 4000000 in
theorem encode_any (arch idx tot : Nat) (text : ByteArray) (ha : arch < 4294967296) (h : PieceOk idx tot text) (w : World) (htab : Tab w) :
    Calls Tryz.prog 15 #[.agg #[.int .u32 arch, .int .i64 idx, .int .i64 tot, .string text]] w fun e w' => e = .returned (.tuple #[.string (mkS (encL arch idx tot text.data.toList)), .int .i64 0]) ∧ Below w.heap.size w w' := by
  have HTAB := Keep.mk htab
  have HOK := Keep.mk h
  have hi := h.i1
  have ht := h.t2
  have htx := h.len
  clear h htab
  go_enter Tryz.func15, Tryz.ntmps15
  have hX := heap_alloc_new w (.cells #[.int .u32 arch, .int .i64 idx, .int .i64 tot, .string text] 53)
  have hb1 : Below w.heap.size w (w.alloc (.cells #[.int .u32 arch, .int .i64 idx, .int .i64 tot, .string text] 53)) := (Below.refl _ _).alloc (Nat.le_refl _) _
  go_upto_region 1 with (fail)
  generalize (w.alloc (.cells #[.int .u32 arch, .int .i64 idx, .int .i64 tot, .string text] 53)) = w1 at *
  have HX := Keep.mk hX
  have HB1 := Keep.mk hb1
  have HC := Keep.mk (pcheck_any arch idx tot text HOK.out w1)
  have x0 : w1.cell? ⟨w.heap.size, 0, none⟩ = some (.int .u32 arch) := by simp [World.cell?, hX]
  have x1 : w1.cell? ⟨w.heap.size, 1, none⟩ = some (.int .i64 idx) := by simp [World.cell?, hX]
  have x2 : w1.cell? ⟨w.heap.size, 2, none⟩ = some (.int .i64 tot) := by simp [World.cell?, hX]
  have x3 : w1.cell? ⟨w.heap.size, 3, none⟩ = some (.string text) := by simp [World.cell?, hX]
  have xl : w.heap.size < w1.heap.size := (Array.getElem?_eq_some_iff.1 hX).1
  clear hX hb1
  go_wp2_with fail
  refine HC.out.mono ?_
  rintro _ w2 ⟨rfl, hb2⟩
  have HB2 := Keep.mk (HB1.out.trans (hb2.mono HB1.out.size))
  have HX2 := Keep.mk ((hb2.block w.heap.size xl).trans HX.out)
  clear x0 x1 x2 x3 xl hb2 HC HX HB1
  go_wp2_with fail
  refine (digits_any 10 w2).mono ?_
  rintro _ w3 ⟨rfl, hw3⟩
  have HP3 : Keep (w3.heap[w2.heap.size]? = some (.cells #[.int .i64 10] 3 (0, 0))) := ⟨by rw [hw3]; exact heap_alloc_new w2 _⟩
  have HB3 : Keep (Below w2.heap.size w2 w3) := ⟨by rw [hw3]; exact (Below.refl _ _).alloc (Nat.le_refl _) _⟩
  obtain ⟨P, hP⟩ : ∃ P, P = w2.heap.size := ⟨_, rfl⟩
  rw [← hP] at HP3 ⊢
  have HBa := Keep.mk (HB2.out.trans (HB3.out.mono HB2.out.size))
  have HXa := Keep.mk ((HB3.out.block w.heap.size (Array.getElem?_eq_some_iff.1 HX2.out).1).trans HX2.out)
  clear hw3 hP HB3 HB2 HX2
  unfold fmtV
  go_wp2_with fail
  refine (digits_any 5 w3).mono ?_
  rintro _ w4 ⟨rfl, hw4⟩
  have HQ4 : Keep (w4.heap[w3.heap.size]? = some (.cells #[.int .i64 5] 3 (0, 0))) := ⟨by rw [hw4]; exact heap_alloc_new w3 _⟩
  have HB4 : Keep (Below w3.heap.size w3 w4) := ⟨by rw [hw4]; exact (Below.refl _ _).alloc (Nat.le_refl _) _⟩
  obtain ⟨Q, hQ⟩ : ∃ Q, Q = w3.heap.size := ⟨_, rfl⟩
  rw [← hQ] at HQ4 ⊢
  have HBb := Keep.mk (HBa.out.trans (HB4.out.mono HBa.out.size))
  have HXb := Keep.mk ((HB4.out.block w.heap.size (Array.getElem?_eq_some_iff.1 HXa.out).1).trans HXa.out)
  have HPb := Keep.mk ((HB4.out.block P (Array.getElem?_eq_some_iff.1 HP3.out).1).trans HP3.out)
  clear hw4 hQ HB4 HBa HXa HP3
  unfold fmtV
  go_upto_region 6 with (fail)
  have hA : (mkS (padD 10 arch)).size = 10 := by rw [mkS_size]; exact padD_exact 10 arch (by omega) (by omega)
  have hI : (mkS (padD 5 idx)).size = 5 := by rw [mkS_size]; exact padD_exact 5 idx (by omega) (by omega)
  have hT : (mkS (padD 5 tot)).size = 5 := by rw [mkS_size]; exact padD_exact 5 tot (by omega) (by omega)
  have HFA : Keep (∀ wx, Below w4.heap.size w4 wx → Calls Tryz.prog 50 #[.int .u64 arch, .pointer (some ⟨P, 0, none⟩)] wx fun e w' => e = .returned (.string (mkS (padD 10 arch))) ∧ Below wx.heap.size wx w') := ⟨fun wx hx => by
    have e := (hx.block P (Array.getElem?_eq_some_iff.1 HPb.out).1).trans HPb.out
    exact format_any 10 arch P (by decide) (by omega) wx (HTAB.out.below (HBb.out.trans (hx.mono HBb.out.size))) (by simp [World.cell?, e]) (Array.getElem?_eq_some_iff.1 e).1⟩
  have HFQ : Keep (∀ (u : Nat) wx, u < 4294967296 → Below w4.heap.size w4 wx → Calls Tryz.prog 50 #[.int .u64 u, .pointer (some ⟨Q, 0, none⟩)] wx fun e w' => e = .returned (.string (mkS (padD 5 u))) ∧ Below wx.heap.size wx w') := ⟨fun u wx hu hx => by
    have e := (hx.block Q (Array.getElem?_eq_some_iff.1 HQ4.out).1).trans HQ4.out
    exact format_any 5 u Q (by decide) (by omega) wx (HTAB.out.below (HBb.out.trans (hx.mono HBb.out.size))) (by simp [World.cell?, e]) (Array.getElem?_eq_some_iff.1 e).1⟩
  have HFI : Keep (∀ wx, Below w4.heap.size w4 wx → Calls Tryz.prog 50 #[.int .u64 idx, .pointer (some ⟨Q, 0, none⟩)] wx fun e w' => e = .returned (.string (mkS (padD 5 idx))) ∧ Below wx.heap.size wx w') := ⟨fun wx hx => HFQ.out idx wx (by omega) hx⟩
  have HFT : Keep (∀ wx, Below w4.heap.size w4 wx → Calls Tryz.prog 50 #[.int .u64 tot, .pointer (some ⟨Q, 0, none⟩)] wx fun e w' => e = .returned (.string (mkS (padD 5 tot))) ∧ Below wx.heap.size wx w') := ⟨fun wx hx => HFQ.out tot wx (by omega) hx⟩
  have HHEAD : Keep (((mkS (padD 10 arch) ++ mkS (padD 5 idx)) ++ mkS (padD 5 tot)) ++ text = mkS (headL arch idx tot text.data.toList)) := ⟨by
    unfold headL
    rw [mkS_append, mkS_append, ← mkS_append _ text.data.toList, mkS_data]⟩
  have HSK : Keep (∀ w', Below w4.heap.size w4 w' → ((w'.cell? ⟨w.heap.size, 0, none⟩ = some (.int .u32 arch) ∧ w'.cell? ⟨w.heap.size, 1, none⟩ = some (.int .i64 idx)) ∧ (w'.cell? ⟨w.heap.size, 2, none⟩ = some (.int .i64 tot) ∧ w'.cell? ⟨w.heap.size, 3, none⟩ = some (.string text))) ∧ Below w4.heap.size w4 w') := ⟨fun w' hx => by
    have e := (hx.block w.heap.size (Array.getElem?_eq_some_iff.1 HXb.out).1).trans HXb.out
    exact ⟨⟨⟨by simp [World.cell?, e], by simp [World.cell?, e]⟩, ⟨by simp [World.cell?, e], by simp [World.cell?, e]⟩⟩, hx⟩⟩
  have u1 : IntKind.u64.wrap (arch : Int) = arch := by rw [IntKind.wrap_u64]; omega
  have u2 : IntKind.u64.wrap (idx : Int) = idx := by rw [IntKind.wrap_u64]; omega
  have u3 : IntKind.u64.wrap (tot : Int) = tot := by rw [IntKind.wrap_u64]; omega
  clear HFQ
  generalize mkS (padD 10 arch) = A at *
  generalize mkS (padD 5 idx) = I at *
  generalize mkS (padD 5 tot) = T at *
  go_region_held3 (fun w' => ((w'.cell? ⟨w.heap.size, 0, none⟩ = some (.int .u32 arch) ∧ w'.cell? ⟨w.heap.size, 1, none⟩ = some (.int .i64 idx)) ∧ (w'.cell? ⟨w.heap.size, 2, none⟩ = some (.int .i64 tot) ∧ w'.cell? ⟨w.heap.size, 3, none⟩ = some (.string text))) ∧ Below w4.heap.size w4 w')
    (first | with_reducible exact HSK.out _ (Below.refl w4.heap.size w4).drew | with_reducible exact HSK.out _ (Below.refl w4.heap.size w4) | with_reducible exact HSK.out _ (held_belowS (And.right (by assumption)) hb27) | with_reducible exact HSK.out _ (held_belowS (And.right (by assumption)) hb32) | with_reducible exact HSK.out _ (held_belowS (And.right (by assumption)) hb38) | with_reducible assumption)
    (first
      | (go_at_call 50; (with_reducible refine (HFA.out _ ?_).mono ?_); (exact And.right (by assumption)); rintro _ w27 ⟨rfl, hb27⟩)
      | (go_at_call 50; (with_reducible refine (HFI.out _ ?_).mono ?_); (exact And.right (by assumption)); rintro _ w32 ⟨rfl, hb32⟩)
      | (go_at_call 50; (with_reducible refine (HFT.out _ ?_).mono ?_); (exact And.right (by assumption)); rintro _ w38 ⟨rfl, hb38⟩))
  all_goals (
    rename_i hSS
    have HBf := Keep.mk (HBb.out.trans (hSS.2.mono HBb.out.size))
    clear hSS
    rw [HHEAD.out]
    have hhs : (mkS (headL arch idx tot text.data.toList)).size = 84 := by
      rw [← HHEAD.out, ByteArray.size_append, ByteArray.size_append, ByteArray.size_append, hA, hI, hT, htx]
    have HEN : Keep (markP ++ mkS (cellsL (mkS (sealL (mkS (headL arch idx tot text.data.toList)).data.toList)).data.toList) = mkS (encL arch idx tot text.data.toList)) := ⟨by
      unfold encL
      rw [data_mkS (sealL _), data_mkS, ← mkS_append, mkS_data]⟩
    generalize mkS (headL arch idx tot text.data.toList) = H at *
    have HSL : Keep ((sealL H.data.toList).length = 94) := ⟨by
      unfold sealL
      rw [List.length_append, padD_exact 10 _ (by decide) (by have := (sumC H.data.toList).isLt; omega)]
      have : H.data.toList.length = 84 := by simpa using hhs
      omega⟩
    go_wp2_with fail
    refine (plainMark_any _).mono ?_
    rintro _ wa ⟨rfl, rfl⟩
    go_wp2_with fail
    refine (seal_any H _ (by omega) (HTAB.out.below HBf.out)).mono ?_
    rintro _ wb ⟨rfl, hbb⟩
    have HBg := Keep.mk (HBf.out.trans (hbb.mono HBf.out.size))
    clear hbb
    go_wp2_with fail
    refine (fromBytes_any (mkS (sealL H.data.toList)) (by rw [mkS_size, HSL.out]; decide) _).mono ?_
    rintro _ wc ⟨rfl, hbc⟩
    have HBh := Keep.mk (HBg.out.trans (hbc.mono HBg.out.size))
    clear hbc
    have hF : (mkS (cellsL (mkS (sealL H.data.toList)).data.toList)).size = 752 := by rw [data_mkS, mkS_size, cellsL_length, HSL.out]
    have hM : markP.size = 16 := by decide
    generalize mkS (cellsL (mkS (sealL H.data.toList)).data.toList) = F at *
    generalize markP = M at *
    go_wp2_with fail
    go_ret2
    exact ⟨by rw [← HEN.out]; rfl, HBh.out⟩)
end Go.Proofs.YtojgopbaiflfgaaGreatDoor
