/- strings.Repeat, Join and HasPrefix in the words of this seat's texts. Conditions: the results' sizes. -/
import Derived.Test.YtflkmifcmaeccaaStrs
import Derived.Test.YtflkmifcmaeccaaShelf
namespace Go.Proofs.Ytflkmifcmaeccaa
open Go.RowKit Go.Shelf

theorem repeatL_zero (k : Nat) : Lib.repeatL [0] k = List.replicate k 0 := by
  induction k with
  | zero => rfl
  | succ k ih => rw [Lib.repeatL, ih, List.replicate_succ]; rfl
theorem repeatL_flatten (l : List UInt8) (k : Nat) : Lib.repeatL l k = (List.replicate k l).flatten := by
  induction k with
  | zero => rfl
  | succ k ih => rw [Lib.repeatL, ih, List.replicate_succ, List.flatten_cons]

theorem repeat_any (s : ByteArray) (c : Int) (w : World) (h0 : 0 ≤ c) (hlen : s.size * c.toNat ≤ 140737488355328) (hc : c ≤ 140737488355328) :
    Calls Try.prog 17 #[.string s, .int .i64 c] w fun e w' => e = .returned (.string (mkS (Lib.repeatL s.data.toList c.toNat))) ∧ Below w.heap.size w w' := by
  obtain ⟨n, rfl⟩ := Int.eq_ofNat_of_zero_le h0
  exact Try.strings_Repeat s n w (by omega) hlen

theorem join_empty (ls : List (List UInt8)) : Lib.join ls [] = ls.flatten := by
  cases ls with
  | nil => rfl
  | cons x r => rw [Lib.join_cons, List.flatten_cons, Lib.joinTail]; simp

theorem joinE_any (v : Value) (l : List ByteArray) (w : World) (hv : Strs w v l) (hl : l.length ≤ 140737488355328) (hlen : (l.map (·.data.toList)).flatten.length ≤ 140737488355328) :
    Calls Try.prog 15 #[v, .string ⟨#[]⟩] w fun e w' => e = .returned (.string (mkS (l.map (·.data.toList)).flatten)) ∧ Below w.heap.size w w' := by
  by_cases h : l = []
  · subst h
    obtain ⟨a, c, rfl, _⟩ := hv.nil_cases
    exact (Try.strings_Join_none a c ⟨#[]⟩ w).mono fun e w' ⟨h1, h2⟩ => ⟨h1, h2 ▸ Below.refl _ _⟩
  · obtain ⟨b, o, c, rfl, h1, h2, h3, h4⟩ := hv.cons_cases h
    have := Try.strings_Join b o c l ⟨#[]⟩ w (fun j x hx => h4 j x hx) h3 hl h1 (by rw [join_empty]; exact hlen)
    rw [join_empty] at this
    exact this

theorem hasPrefix_any (s p : ByteArray) (w : World) :
    Calls Try.prog 16 #[.string s, .string p] w fun e w' => e = .returned (.bool (Lib.hasPrefix s.data.toList p.data.toList)) ∧ w = w' :=
  (Try.strings_HasPrefix s p w).mono fun _ _ ⟨h1, h2⟩ => ⟨h1, h2.symm⟩
end Go.Proofs.Ytflkmifcmaeccaa
