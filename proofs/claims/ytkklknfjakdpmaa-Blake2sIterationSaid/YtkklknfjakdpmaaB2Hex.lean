/- Hex of both implementations. Condition: at most a million bytes. -/
import Derived.Test.YtkklknfjakdpmaaB2Bytes
import Derived.Test.YtkklknfjakdpmaaBuilderByte
namespace Go.Proofs.Ytkklknfjakdpmaa
open Go.RowKit Go.Shelf Go.Proofs.Ytkklknfjakdpmaa.B2

def hexD : ByteArray := ⟨#[48, 49, 50, 51, 52, 53, 54, 55, 56, 57, 97, 98, 99, 100, 101, 102]⟩
theorem hexD_get (n : Nat) (h : n < 16) : hexD[n]? = some (nib n) := by
  have : ∀ n, n < 16 → hexD[n]? = some (nib n) := by decide +kernel
  exact this n h
theorem hexD_at (n : Nat) (h : n < hexD.size) : ((hexD[n]'h).toNat : Int) = ((nib n).toNat : Int) := by
  have h1 := hexD_get n h
  have h2 : hexD[n]? = some (hexD[n]'h) := by simp [h]
  rw [h2] at h1
  rw [Option.some.inj h1]
def nibs (c : UInt8) : List UInt8 := [nib (c.toNat / 16), nib (c.toNat % 16)]
theorem hex_step (s : ByteArray) (k : Nat) (h : k < s.size) : hex (s.data.toList.take (k + 1)) = hex (s.data.toList.take k) ++ nibs (s[k]'h) := by
  unfold hex nibs
  have hl : k < s.data.toList.length := by simpa using h
  rw [List.take_add_one, List.flatMap_append, List.getElem?_eq_getElem hl]
  simp
  exact ⟨rfl, rfl⟩
theorem hex_length (l : List UInt8) : (hex l).length = 2 * l.length := by
  unfold hex
  induction l with
  | nil => rfl
  | cons c l ih => rw [List.flatMap_cons, List.length_append, ih]; simp; omega

set_option maxRecDepth 100000 in
set_option maxHeartbeats 4000000 in
theorem hex_any (s : ByteArray) (hsz : s.size ≤ 1000000) (w : World) :
    Calls Try.prog 18 #[.string s] w fun e w' => e = .returned (.string (mkS (hex s.data.toList))) ∧ Below w.heap.size w w' := by
  have HB0 := Keep.mk (builder_fresh w)
  go_enter Try.func18, Try.ntmps18
  go_wp2_with fail
  go_loopw [7] (fun i wr => ∃ k : Nat, k ≤ s.size ∧ i = .int .i64 k ∧ Holds w.heap.size w.heap.size (hex (s.data.toList.take k)) wr ∧ Below w.heap.size w wr) (fun i _ => s.size - (intOf i).toNat)
  case atStart => exact ⟨0, by omega, rfl, HB0.out, (Below.refl _ _).alloc (Nat.le_refl _) _⟩
  case round =>
    obtain ⟨k, hk, rfl, hH, hB⟩ := hrel
    clear HB0
    have HH := Keep.mk (And.intro hH hB)
    clear hH hB
    by_cases hlt : k < s.size
    · have i0 : (0 : Int) ≤ k := by omega
      have i1 : (k : Int) < s.size := by omega
      have HS := Keep.mk (hex_step s k hlt)
      have hlen : (hex (s.data.toList.take k)).length ≤ 2000000 := by rw [hex_length, List.length_take]; omega
      generalize hex (s.data.toList.take k) = acc at *
      obtain ⟨c, hc⟩ : ∃ c : UInt8, s[k]'hlt = c := ⟨_, rfl⟩
      rw [hc] at HS
      have hcl := c.toNat_lt
      have hz1 : c.toNat / 16 < hexD.size := by show _ < 16; omega
      have hz2 : c.toNat % 16 < hexD.size := by show _ < 16; omega
      have hal := HH.out.2.size
      go_wp2_with (first
        | (go_at_call 33; refine (writeByte_any w.heap.size w.heap.size acc _ (nib (c.toNat / 16)) _ HH.out.1 (by omega) (by omega) (hexD_at _ hz1)).mono ?_; rintro e w5 ⟨rfl, h5, b5, _⟩; have H5 := Keep.mk (And.intro h5 (HH.out.2.trans b5)); have hal5 := H5.out.2.size; clear h5 b5 HH)
        | (go_at_call 33; refine (writeByte_any w.heap.size w.heap.size (acc ++ [nib (c.toNat / 16)]) _ (nib (c.toNat % 16)) _ H5.out.1 (by simp; omega) (by omega) (hexD_at _ hz2)).mono ?_; rintro e w6 ⟨rfl, h6, b6, _⟩; have H6 := Keep.mk (And.intro h6 (H5.out.2.trans b6)); clear h6 b6 H5))
      go_roundw
      case rel => exact ⟨k + 1, by omega, by go_num, by rw [HS.out, show acc ++ nibs c = acc ++ [nib (c.toNat / 16)] ++ [nib (c.toNat % 16)] from by simp [nibs]]; exact H6.out.1, H6.out.2⟩
      case measure => simp [intOf]; omega
    · have hks : k = s.size := by omega
      subst hks
      rw [List.take_of_length_le (by simp)] at HH
      go_wp2_with (go_at_call 34; refine (Try.Builder_String_any w.heap.size w.heap.size _ wr HH.out.1 HH.out.2.size).mono ?_; rintro e w5 ⟨rfl, hh5⟩; have b5 := hh5)
      go_ret
      exact ⟨rfl, HH.out.2.trans b5⟩

theorem digits_slice (n : Nat) (h : n < 16) : (hexD.extract n (n + 1)).data.toList = [nib n] := by
  have : ∀ n, n < 16 → (hexD.extract n (n + 1)).data.toList = [nib n] := by decide +kernel
  exact this n h
set_option maxRecDepth 100000 in
set_option maxHeartbeats 4000000 in
theorem refHex_any (s : ByteArray) (hsz : s.size ≤ 1000000) (w : World) :
    Calls Try.prog 19 #[.string s] w fun e w' => e = .returned (.string (mkS (hex s.data.toList))) ∧ Below w.heap.size w w' := by
  go_enter Try.func19, Try.ntmps19
  go_wp2_with fail
  go_loopw [4, 3] (fun i v wr => ∃ k : Nat, k ≤ s.size ∧ i = .int .i64 k ∧ v = .string (mkS (hex (s.data.toList.take k))) ∧ Below w.heap.size w wr) (fun i _ _ => s.size - (intOf i).toNat)
  case atStart => exact ⟨0, by omega, rfl, rfl, Below.refl _ _⟩
  case round =>
    obtain ⟨k, hk, rfl, rfl, hB⟩ := hrel
    have HH := Keep.mk hB
    clear hB
    by_cases hlt : k < s.size
    · have i0 : (0 : Int) ≤ k := by omega
      have i1 : (k : Int) < s.size := by omega
      have HS := Keep.mk (hex_step s k hlt)
      have hlen : (mkS (hex (s.data.toList.take k))).size ≤ 2000000 := by rw [size_mkS, hex_length, List.length_take]; omega
      have hacc := data_mkS (hex (s.data.toList.take k))
      rw [← hacc] at HS
      clear hacc
      generalize mkS (hex (s.data.toList.take k)) = acc at *
      obtain ⟨c, hc⟩ : ∃ c : UInt8, s[k]'hlt = c := ⟨_, rfl⟩
      rw [hc] at HS
      have hcl := c.toNat_lt
      obtain ⟨x, hx⟩ : ∃ x, x = c.toNat / 16 := ⟨_, rfl⟩
      obtain ⟨y, hy⟩ : ∃ y, y = c.toNat % 16 := ⟨_, rfl⟩
      have qx : (c.toNat : Int) / 16 = (x : Int) := by omega
      have qy : (c.toNat : Int) % 16 = (y : Int) := by omega
      have hx16 : x < 16 := by omega
      have hy16 : y < 16 := by omega
      have HN : Keep (nibs c = [nib x, nib y]) := ⟨by rw [nibs, hx, hy]⟩
      clear hx hy
      go_wp2_with fail
      go_quiet (fail)
      obtain ⟨sx, hsx⟩ : ∃ sx, sx = hexD.extract x (x + 1) := ⟨_, rfl⟩
      obtain ⟨sy, hsy⟩ : ∃ sy, sy = hexD.extract y (y + 1) := ⟨_, rfl⟩
      have lx := digits_slice x hx16
      have ly := digits_slice y hy16
      rw [← hsx] at lx
      rw [← hsy] at ly
      have zx : sx.size = 1 := by have h1 : sx.data.toList.length = sx.size := by simp
                                  rw [← h1, lx]; rfl
      have zy : sy.size = 1 := by have h1 : sy.data.toList.length = sy.size := by simp
                                  rw [← h1, ly]; rfl
      have ex : (⟨#[48, 49, 50, 51, 52, 53, 54, 55, 56, 57, 97, 98, 99, 100, 101, 102]⟩ : ByteArray).extract x (x + 1) = sx := hsx.symm
      have ey : (⟨#[48, 49, 50, 51, 52, 53, 54, 55, 56, 57, 97, 98, 99, 100, 101, 102]⟩ : ByteArray).extract y (y + 1) = sy := hsy.symm
      clear hsx hsy
      have hcat1 := fun (wx : World) => run_string_add_sum (P := Try.prog) wx acc sx (by omega)
      obtain ⟨a1, ha1⟩ : ∃ a1, a1 = acc ++ sx := ⟨_, rfl⟩
      have za1 : a1.size = acc.size + 1 := by rw [ha1]; simp; exact zx
      have hcat2 := fun (wx : World) => run_string_add_sum (P := Try.prog) wx a1 sy (by omega)
      obtain ⟨a2, ha2⟩ : ∃ a2, a2 = a1 ++ sy := ⟨_, rfl⟩
      have HA2 : Keep (a2 = mkS (hex (s.data.toList.take (k + 1)))) := ⟨by
        rw [HS.out, HN.out, ← mkS_data a2, ha2, ha1]; congr 1; simp [lx, ly]⟩
      rw [← ha1] at hcat1
      rw [← ha2] at hcat2
      clear ha1 ha2 za1 zx zy lx ly HS HN hlen hcl hc
      have x0 : (0 : Int) ≤ x := by omega
      have x1 : (x : Int) + 1 ≤ 16 := by omega
      have x2 : (x : Int) ≤ (x : Int) + 1 := by omega
      have x3 : (0 : Int) ≤ (x : Int) + 1 := by omega
      have x4 : ((x : Int) + 1).toNat = x + 1 := by omega
      have y0 : (0 : Int) ≤ y := by omega
      have y1 : (y : Int) + 1 ≤ 16 := by omega
      have y2 : (y : Int) ≤ (y : Int) + 1 := by omega
      have y3 : (0 : Int) ≤ (y : Int) + 1 := by omega
      have y4 : ((y : Int) + 1).toNat = y + 1 := by omega
      go_wp2_with fail
      go_quiet (fail)
      clear hcat1 hcat2 ex ey x0 x1 x2 x3 x4 y0 y1 y2 y3 y4
      go_wp2
      go_roundw
      case rel => exact ⟨k + 1, by omega, by go_num, by rw [HA2.out], below_drewN HH.out _⟩
      case measure => simp [intOf]; omega
    · have hks : k = s.size := by omega
      subst hks
      rw [List.take_of_length_le (by simp)]
      go_wp2
      go_ret
      exact ⟨rfl, HH.out⟩
end Go.Proofs.Ytkklknfjakdpmaa
