/- How great the reference reckons a program: its measure of expressions, statements, functions, programs. No program in sight. -/
import Derived.Test.YtgimdbflpdmlmaaCkBound
namespace Go.Proofs.Ytgimdbflpdmlmaa.Ck
set_option maxRecDepth 100000
open Go.Proofs.Ytgimdbflpdmlmaa

mutual
def Ex.sz : Ex → Nat
  | .mk op _ name args => 1 + name.size / 8 + op.size / 8 + szL args
def szL : List Ex → Nat
  | [] => 0
  | e :: l => e.sz + szL l
end
mutual
def St.sz : St → Nat
  | .mk _ name index value thn els => 1 + name.size / 8 + szS thn + szS els + szL value + szL index
def szS : List St → Nat
  | [] => 0
  | s :: l => s.sz + szS l
end
mutual
theorem Ex.nodes_sz : ∀ e : Ex, e.nodes ≤ e.sz
  | .mk op num name args => by
    have := nodes_szL args
    rw [Ex.nodes, Ex.sz]; omega
theorem nodes_szL : ∀ l : List Ex, nodesL l ≤ szL l
  | [] => by rw [nodesL, szL]; exact Nat.le_refl _
  | e :: l => by
    have := nodes_szL l
    have := e.nodes_sz
    rw [nodesL, szL]; omega
end
mutual
theorem St.nodes_sz : ∀ s : St, s.nodes ≤ s.sz
  | .mk k name index value thn els => by
    have := nodes_szS thn
    have := nodes_szS els
    have := nodes_szL index
    have := nodes_szL value
    rw [St.nodes, St.sz]; omega
theorem nodes_szS : ∀ l : List St, nodesS l ≤ szS l
  | [] => by rw [nodesS, szS]; exact Nat.le_refl _
  | s :: l => by
    have := nodes_szS l
    have := s.nodes_sz
    rw [nodesS, szS]; omega
end
theorem szL_append (l m : List Ex) : szL (l ++ m) = szL l + szL m := by
  induction l with
  | nil => simp [szL]
  | cons e l ih => rw [List.cons_append, szL, szL, ih]; omega
theorem szS_append (l m : List St) : szS (l ++ m) = szS l + szS m := by
  induction l with
  | nil => simp [szS]
  | cons e l ih => rw [List.cons_append, szS, szS, ih]; omega
theorem szL_get : ∀ {l : List Ex} {i : Nat} {e : Ex}, l[i]? = some e → e.sz ≤ szL l
  | [], i, e, h => by simp at h
  | x :: l, 0, e, h => by simp at h; subst h; rw [szL]; omega
  | x :: l, i + 1, e, h => by
    have := szL_get (l := l) (i := i) (e := e) (by simpa using h)
    rw [szL]; omega
theorem szS_get : ∀ {l : List St} {i : Nat} {e : St}, l[i]? = some e → e.sz ≤ szS l
  | [], i, e, h => by simp at h
  | x :: l, 0, e, h => by simp at h; subst h; rw [szS]; omega
  | x :: l, i + 1, e, h => by
    have := szS_get (l := l) (i := i) (e := e) (by simpa using h)
    rw [szS]; omega
theorem szL_take : ∀ (l : List Ex) (k : Nat), szL (l.take k) ≤ szL l
  | l, k => by
    have := szL_append (l.take k) (l.drop k)
    rw [List.take_append_drop] at this
    omega
theorem szS_take : ∀ (l : List St) (k : Nat), szS (l.take k) ≤ szS l
  | l, k => by
    have := szS_append (l.take k) (l.drop k)
    rw [List.take_append_drop] at this
    omega
theorem szL_step {l : List Ex} {e : Ex} {k : Nat} (h : l[k]? = some e) : szL (l.take (k + 1)) = szL (l.take k) + e.sz := by
  rw [List.take_add_one, h, szL_append]
  show _ + szL [e] = _
  rw [szL, szL]; omega
theorem szS_step {l : List St} {e : St} {k : Nat} (h : l[k]? = some e) : szS (l.take (k + 1)) = szS (l.take k) + e.sz := by
  rw [List.take_add_one, h, szS_append]
  show _ + szS [e] = _
  rw [szS, szS]; omega
theorem length_szL (l : List Ex) : l.length ≤ szL l := Nat.le_trans (length_nodesL l) (nodes_szL l)
theorem length_szS (l : List St) : l.length ≤ szS l := Nat.le_trans (length_nodesS l) (nodes_szS l)
def eighths (l : List BA) : Nat := (l.map fun s => s.size / 8).sum
def fuSz (f : Fu) : Nat := 1 + f.name.size / 8 + f.params.length + f.locals.length + szS f.body + eighths (f.params ++ f.locals)
def sizeP (p : Pr) : Nat := p.vars.length + p.arrays.length + eighths p.vars + eighths (p.arrays.map (·.1)) + (p.funcs.map fuSz).sum
theorem eighths_append (l m : List BA) : eighths (l ++ m) = eighths l + eighths m := by unfold eighths; rw [List.map_append, List.sum_append]
theorem eighths_step {l : List BA} {s : BA} {k : Nat} (h : l[k]? = some s) : eighths (l.take (k + 1)) = eighths (l.take k) + s.size / 8 := by
  rw [List.take_add_one, h, eighths_append]
  show _ + eighths [s] = _
  unfold eighths; simp
theorem eighths_take (l : List BA) (k : Nat) : eighths (l.take k) ≤ eighths l := by
  have := eighths_append (l.take k) (l.drop k)
  rw [List.take_append_drop] at this
  omega
theorem eighths_get {l : List BA} {s : BA} {k : Nat} (h : l[k]? = some s) : s.size / 8 ≤ eighths l := by
  have := eighths_step h
  have := eighths_take l (k + 1)
  omega
theorem eighths_mem {l : List BA} {s : BA} (h : s ∈ l) : s.size / 8 ≤ eighths l := by
  obtain ⟨i, hi⟩ := List.mem_iff_getElem?.1 h
  exact eighths_get hi
theorem eighths_le (l : List BA) : eighths l ≤ (l.map fun s => s.size + 1).sum := by
  induction l with
  | nil => simp [eighths]
  | cons s l ih =>
    unfold eighths at ih ⊢
    simp only [List.map_cons, List.sum_cons]
    omega
theorem fsum_step {l : List Fu} {g : Fu → Nat} {f : Fu} {k : Nat} (h : l[k]? = some f) : ((l.take (k + 1)).map g).sum = ((l.take k).map g).sum + g f := by
  rw [List.take_add_one, h]; simp
theorem fsum_take (l : List Fu) (g : Fu → Nat) (k : Nat) : ((l.take k).map g).sum ≤ (l.map g).sum := by
  have : ((l.take k ++ l.drop k).map g).sum = ((l.take k).map g).sum + ((l.drop k).map g).sum := by rw [List.map_append, List.sum_append]
  rw [List.take_append_drop] at this
  omega
theorem fsum_mem {l : List Fu} {g : Fu → Nat} {f : Fu} (h : f ∈ l) : g f ≤ (l.map g).sum := by
  obtain ⟨k, hk⟩ := List.mem_iff_getElem?.1 h
  have := fsum_step (g := g) hk
  have := fsum_take l g (k + 1)
  omega
end Go.Proofs.Ytgimdbflpdmlmaa.Ck
