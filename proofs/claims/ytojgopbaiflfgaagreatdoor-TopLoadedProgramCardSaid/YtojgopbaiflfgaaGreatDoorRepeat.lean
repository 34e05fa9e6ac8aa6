/- strings.Repeat in the words of this seat's texts. Conditions: the results' sizes. -/
import Derived.Test.YtojgopbaiflfgaaGreatDoorBase
import Derived.Test.YtojgopbaiflfgaaGreatDoorShelf
namespace Go.Proofs.YtojgopbaiflfgaaGreatDoor
set_option maxRecDepth 100000
open Go.RowKit Go.Shelf

theorem repeatL_zero (k : Nat) : Lib.repeatL [0] k = List.replicate k 0 := by
  induction k with
  | zero => rfl
  | succ k ih => rw [Lib.repeatL, ih, List.replicate_succ]; rfl
theorem repeatL_flatten (l : List UInt8) (k : Nat) : Lib.repeatL l k = (List.replicate k l).flatten := by
  induction k with
  | zero => rfl
  | succ k ih => rw [Lib.repeatL, ih, List.replicate_succ, List.flatten_cons]

theorem repeat_any (s : ByteArray) (c : Int) (w : World) (h0 : 0 ≤ c) (hlen : s.size * c.toNat ≤ 140737488355328) (hc : c ≤ 140737488355328) :
    Calls Tryz.prog 10 #[.string s, .int .i64 c] w fun e w' => e = .returned (.string (mkS (Lib.repeatL s.data.toList c.toNat))) ∧ Below w.heap.size w w' := by
  obtain ⟨n, rfl⟩ := Int.eq_ofNat_of_zero_le h0
  exact Tryz.strings_Repeat s n w (by omega) hlen

end Go.Proofs.YtojgopbaiflfgaaGreatDoor
