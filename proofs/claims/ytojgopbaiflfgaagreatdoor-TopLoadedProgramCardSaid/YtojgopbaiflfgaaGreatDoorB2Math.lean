/- BLAKE2s in plain Lean: words, mixing, compression, digest, hexadecimal form, tree. No program in sight. -/
import Derived.Test.YtojgopbaiflfgaaGreatDoorBase
namespace Go.Proofs.YtojgopbaiflfgaaGreatDoor.B2
set_option maxRecDepth 100000
open Go.Proofs.YtojgopbaiflfgaaGreatDoor

abbrev W := BitVec 32
def rotr (x : W) (r : Nat) : W := (x >>> r) ||| (x <<< (32 - r))
def iv : List W := [0x6a09e667#32, 0xbb67ae85#32, 0x3c6ef372#32, 0xa54ff53a#32, 0x510e527f#32, 0x9b05688c#32, 0x1f83d9ab#32, 0x5be0cd19#32]
def sigma : List (List Nat) := [
  [0, 1, 2, 3, 4, 5, 6, 7, 8, 9, 10, 11, 12, 13, 14, 15],
  [14, 10, 4, 8, 9, 15, 13, 6, 1, 12, 0, 2, 11, 7, 5, 3],
  [11, 8, 12, 0, 5, 2, 15, 13, 10, 14, 3, 6, 7, 1, 9, 4],
  [7, 9, 3, 1, 13, 12, 11, 14, 2, 6, 5, 10, 4, 0, 15, 8],
  [9, 0, 5, 7, 2, 4, 10, 15, 14, 1, 11, 12, 6, 8, 3, 13],
  [2, 12, 6, 10, 0, 11, 8, 3, 4, 13, 7, 5, 15, 14, 1, 9],
  [12, 5, 1, 15, 14, 13, 4, 10, 0, 7, 6, 3, 9, 2, 8, 11],
  [13, 11, 7, 14, 12, 1, 3, 9, 5, 0, 15, 4, 8, 6, 2, 10],
  [6, 15, 14, 9, 11, 3, 0, 8, 12, 2, 13, 7, 1, 4, 10, 5],
  [10, 2, 8, 4, 7, 6, 1, 5, 15, 11, 9, 14, 3, 12, 13, 0]]
def sig (r j : Nat) : Nat := (sigma.getD r []).getD j 0
def cols : List (List Nat) := [[0, 4, 8, 12], [1, 5, 9, 13], [2, 6, 10, 14], [3, 7, 11, 15], [0, 5, 10, 15], [1, 6, 11, 12], [2, 7, 8, 13], [3, 4, 9, 14]]
def col (i j : Nat) : Nat := (cols.getD i []).getD j 0

def mixA (va vb x : W) : W := va + (vb + x)
def mixD (vd a : W) (r : Nat) : W := rotr (vd ^^^ a) r
/-- Four words mixed with two. -/
def mix4 (va vb vc vd x y : W) : W × W × W × W :=
  let a1 := va + (vb + x)
  let d1 := rotr (vd ^^^ a1) 16
  let c1 := vc + d1
  let b1 := rotr (vb ^^^ c1) 12
  let a2 := a1 + (b1 + y)
  let d2 := rotr (d1 ^^^ a2) 8
  let c2 := c1 + d2
  let b2 := rotr (b1 ^^^ c2) 7
  (a2, b2, c2, d2)
def mixV (v : List W) (a b c d : Nat) (x y : W) : List W :=
  let q := mix4 (v.getD a 0) (v.getD b 0) (v.getD c 0) (v.getD d 0) x y
  (((v.set a q.1).set b q.2.1).set c q.2.2.1).set d q.2.2.2
theorem mixV_length (v : List W) (a b c d : Nat) (x y : W) : (mixV v a b c d x y).length = v.length := by simp [mixV]
def half (m v : List W) (r : Nat) : Nat → List W
  | 0 => v
  | i + 1 => mixV (half m v r i) (col i 0) (col i 1) (col i 2) (col i 3) (m.getD (sig r (2 * i)) 0) (m.getD (sig r (2 * i + 1)) 0)
theorem half_length (m v : List W) (r : Nat) : ∀ i, (half m v r i).length = v.length
  | 0 => rfl
  | i + 1 => by rw [half, mixV_length, half_length m v r i]
def rounds (m v : List W) : Nat → List W
  | 0 => v
  | r + 1 => half m (rounds m v r) r 8
theorem rounds_length (m v : List W) : ∀ r, (rounds m v r).length = v.length
  | 0 => rfl
  | r + 1 => by rw [rounds, half_length, rounds_length m v r]
def byteW (l : List UInt8) (i : Nat) : W := BitVec.ofNat 32 (l.getD i 0).toNat
def word (l : List UInt8) (i : Nat) : W := byteW l (4 * i) ||| (byteW l (4 * i + 1) <<< 8) ||| (byteW l (4 * i + 2) <<< 16) ||| (byteW l (4 * i + 3) <<< 24)
def words (l : List UInt8) : List W := (List.range 16).map (word l)
def start (h : List W) (count : Nat) (last : Bool) : List W :=
  let v := h ++ iv
  let v := v.set 12 (v.getD 12 0 ^^^ BitVec.ofNat 32 count)
  let v := v.set 13 (v.getD 13 0 ^^^ BitVec.ofNat 32 (count / 4294967296))
  if last then v.set 14 (0xffffffff#32 ^^^ v.getD 14 0) else v
theorem start_length {h : List W} (hh : h.length = 8) (count : Nat) (last : Bool) : (start h count last).length = 16 := by
  unfold start; cases last <;> simp [hh, iv]
def fin (h v : List W) (i : Nat) : W := h.getD i 0 ^^^ (v.getD i 0 ^^^ v.getD (i + 8) 0)
def compress (h : List W) (block : List UInt8) (count : Nat) (last : Bool) : List W :=
  (List.range 8).map (fin h (rounds (words block) (start h count last) 10))
theorem compress_length (h : List W) (block : List UInt8) (count : Nat) (last : Bool) : (compress h block count last).length = 8 := by simp [compress]
def h0 : List W := iv.set 0 (iv.getD 0 0 ^^^ 0x01010020#32)
def state (s : List UInt8) : Nat → List W
  | 0 => h0
  | k + 1 => compress (state s k) ((s.drop (64 * k)).take 64) (64 * k + 64) false
theorem state_length (s : List UInt8) : ∀ k, (state s k).length = 8
  | 0 => rfl
  | _ + 1 => compress_length _ _ _ _
def full (n : Nat) : Nat := (n - 1) / 64
def lastBlock (s : List UInt8) : List UInt8 := s.drop (64 * full s.length) ++ List.replicate (64 - (s.length - 64 * full s.length)) 0
def final (s : List UInt8) : List W := compress (state s (full s.length)) (lastBlock s) s.length true
theorem final_length (s : List UInt8) : (final s).length = 8 := compress_length _ _ _ _
def bytes4 (x : W) : List UInt8 := [UInt8.ofNat x.toNat, UInt8.ofNat (x.toNat / 256), UInt8.ofNat (x.toNat / 65536), UInt8.ofNat (x.toNat / 16777216)]
def digest (s : List UInt8) : List UInt8 := (final s).flatMap bytes4
def nib (n : Nat) : UInt8 := if n < 10 then UInt8.ofNat (48 + n) else UInt8.ofNat (87 + n)
def hex (s : List UInt8) : List UInt8 := s.flatMap fun c => [nib (c.toNat / 16), nib (c.toNat % 16)]

set_option maxRecDepth 100000 in
theorem alive_abc : hex (digest [97, 98, 99]) = [53, 48, 56, 99, 53, 101, 56, 99, 51, 50, 55, 99, 49, 52, 101, 50, 101, 49, 97, 55, 50, 98, 97, 51, 52, 101, 101, 98, 52, 53, 50, 102, 51, 55, 52, 53, 56, 98, 50, 48, 57, 101, 100, 54, 51, 97, 50, 57, 52, 100, 57, 57, 57, 98, 52, 99, 56, 54, 54, 55, 53, 57, 56, 50] := by decide +kernel
end Go.Proofs.YtojgopbaiflfgaaGreatDoor.B2
