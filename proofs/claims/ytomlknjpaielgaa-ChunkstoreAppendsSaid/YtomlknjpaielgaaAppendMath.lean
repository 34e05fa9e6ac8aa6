/- Storing only appends: to the stream, and to the chunks those that the appended bytes hold. No program in sight. -/
import Derived.Test.YtomlknjpaielgaaDedupMath
namespace Go.Proofs.Ytomlknjpaielgaa.Store
set_option maxRecDepth 100000
open Go.Proofs.Ytomlknjpaielgaa Go.Proofs.Ytomlknjpaielgaa.Sparse

/-- The chunks follow one another from a on up to b. -/
def Chain (ses : Int) : Nat → List Chk → Nat → Prop
  | a, [], b => a = b
  | a, c :: r, b => ∃ n : Nat, c.2 = (ses, (a : Int), (n : Int)) ∧ 1 ≤ n ∧ Chain ses (a + n) r b
theorem Chain.append {ses : Int} : ∀ {l m : List Chk} {a b c : Nat}, Chain ses a l b → Chain ses b m c → Chain ses a (l ++ m) c
  | [], _, _, _, _, h, h' => by cases h; exact h'
  | _ :: _, _, _, _, _, ⟨n, h1, h2, h3⟩, h' => ⟨n, h1, h2, h3.append h'⟩
theorem Chain.le {ses : Int} : ∀ {l : List Chk} {a b : Nat}, Chain ses a l b → a ≤ b
  | [], _, _, h => Nat.le_of_eq h
  | _ :: _, _, _, ⟨n, _, _, h3⟩ => Nat.le_trans (Nat.le_add_right _ n) h3.le
/-- q has grown out of p. -/
def Grown (ses : Int) (p q : Acc) : Prop := ∃ (news : List Chk) (t : ByteArray), q.1 = p.1 ++ news ∧ q.2.1 = p.2.1 ++ t ∧ Chain ses p.2.1.size news q.2.1.size
theorem append_none (s : ByteArray) : s = s ++ ⟨#[]⟩ := by
  apply ByteArray.ext
  simp
theorem Grown.refl (ses : Int) (p : Acc) : Grown ses p p := ⟨[], ⟨#[]⟩, by simp, append_none _, rfl⟩
theorem Grown.trans {ses : Int} {p q r : Acc} (h : Grown ses p q) (h' : Grown ses q r) : Grown ses p r := by
  obtain ⟨n1, t1, a1, b1, c1⟩ := h
  obtain ⟨n2, t2, a2, b2, c2⟩ := h'
  exact ⟨n1 ++ n2, t1 ++ t2, by rw [a2, a1, List.append_assoc], by rw [b2, b1, ByteArray.append_assoc], c1.append c2⟩
theorem putC_grown {ses : Int} (p : Acc) {c : ByteArray} (hc : 1 ≤ c.size) : Grown ses p (putC ses p c) := by
  cases h : find (dig c) p.1 with
  | some x => rw [putC_some h]; exact ⟨[], ⟨#[]⟩, by simp, append_none _, rfl⟩
  | none =>
    rw [putC_none h]
    refine ⟨_, c, rfl, rfl, c.size, rfl, hc, ?_⟩
    show p.2.1.size + c.size = (p.2.1 ++ c).size
    rw [ByteArray.size_append]
theorem putCs_grown {ses : Int} : ∀ (ch : List ByteArray) (p : Acc), (∀ x ∈ ch, 1 ≤ x.size) → Grown ses p (ch.foldl (putC ses) p)
  | [], p, _ => Grown.refl ses p
  | c :: ch, p, h => (putC_grown p (h c (List.mem_cons_self ..))).trans (putCs_grown ch _ (fun x hx => h x (List.mem_cons_of_mem _ hx)))
theorem putS_grown {ses : Int} (p : Acc) (g : Seg) : Grown ses p (putS ses p g) := by
  unfold putS
  split
  · exact ⟨[], ⟨#[]⟩, by simp, append_none _, rfl⟩
  · exact putCs_grown _ p (chunkS_pos _)
theorem putSs_grown {ses : Int} : ∀ (gs : List Seg) (p : Acc), Grown ses p (gs.foldl (putS ses) p)
  | [], p => Grown.refl ses p
  | g :: gs, p => (putS_grown p g).trans (putSs_grown gs _)
theorem putAll_grown (ses : Int) (cs : List Chk) (st c : ByteArray) : Grown ses (cs, st, []) (putAll ses cs st c) := putSs_grown _ _
theorem Chain.at {ses : Int} : ∀ {l : List Chk} {a b : Nat}, Chain ses a l b → ∀ {k : Nat} {c : Chk}, l[k]? = some c → ∃ n : Nat, 1 ≤ n ∧ c.2 = (ses, ((a + ((l.take k).map fun c => c.2.2.2.toNat).sum : Nat) : Int), (n : Int)) ∧
    ((l.take (k + 1)).map fun c => c.2.2.2.toNat).sum = ((l.take k).map fun c => c.2.2.2.toNat).sum + n
  | [], _, _, _, _, _, h => by simp at h
  | d :: l, a, b, ⟨n, h1, h2, h3⟩, 0, c, h => by
    simp only [List.getElem?_cons_zero, Option.some.injEq] at h
    subst h
    exact ⟨n, h2, by simpa using h1, by simp [h1]⟩
  | d :: l, a, b, ⟨n, h1, h2, h3⟩, k + 1, c, h => by
    rw [List.getElem?_cons_succ] at h
    obtain ⟨m, e1, e2, e3⟩ := h3.at h
    refine ⟨m, e1, ?_, ?_⟩
    · rw [e2, List.take_succ_cons, List.map_cons, List.sum_cons, h1]
      simp only [Int.toNat_natCast]
      congr 2
      omega
    · rw [List.take_succ_cons, List.take_succ_cons, List.map_cons, List.map_cons, List.sum_cons, List.sum_cons, e3]; omega
theorem Chain.sum {ses : Int} : ∀ {l : List Chk} {a b : Nat}, Chain ses a l b → b = a + (l.map fun c => c.2.2.2.toNat).sum
  | [], _, _, h => by cases h; simp
  | d :: l, a, b, ⟨n, h1, h2, h3⟩ => by
    rw [h3.sum, List.map_cons, List.sum_cons, h1]
    simp only [Int.toNat_natCast]
    omega
end Go.Proofs.Ytomlknjpaielgaa.Store
