/- A slice of one byte turned into a string, wherever in a region. No condition. -/
import Derived.Test.YtgimdbflpdmlmaaBase
import Derived.RegionTactic
import Derived.Laws.IdiomStrings
import Derived.Test.YtgimdbflpdmlmaaSlc
namespace Go.Proofs.Ytgimdbflpdmlmaa
set_option maxRecDepth 100000
open Go.RowKit Go.Shelf

theorem run_convert_byte {w : World} {g : Nat} {c : UInt8} {n : Int} (hc : w.cell? ⟨g, 0, none⟩ = some (.int .u8 n)) (hn : n = (c.toNat : Int)) : (convert 49 9 (.slice (some ⟨g, 0, none⟩) 1 1)).run Try.prog w = .ok (.string ⟨#[c]⟩) w :=
  run_convert_bytes_back _ 49 9 5 ⟨g, 0, none⟩ 1 [c] Try.underlying49 Try.underlying5 Try.underlying9 (fun j hj => by
        have h0 : j = 0 := by simpa using hj
        subst h0 hn
        exact hc)
theorem wp_convert_byte {o : Oper} {a : Act} {w : World} {K : Act → World → Prop} {Q : Exit → Act → World → Prop} (x : Operand) (ho : o.op = .convert 49 9 x) (g : Nat) (c : UInt8) (n : Int) (hx : a.eval x = .slice (some ⟨g, 0, none⟩) 1 1)
    (hn : n = (c.toNat : Int)) (hc : w.cell? ⟨g, 0, none⟩ = some (.int .u8 n)) (h : K (a.put o.dst (.string ⟨#[c]⟩)) w) : Oper.wp Try.prog o a w K Q := by
  unfold Oper.wp execOp
  simp only [ho, hx, Sem.run_bind, Sem.run_pure, Result.andThen_ok, run_convert_byte hc hn]
  exact h
theorem cell_alloc_new (w : World) (v : Value) (t : TypeId) : (w.alloc (.cells #[v] t)).cell? ⟨w.heap.size, 0, none⟩ = some v := by
  have e := heap_alloc_new w (.cells #[v] t)
  generalize w.alloc (.cells #[v] t) = W at *
  simp [World.cell?, e]
theorem cell_alloc_old {w : World} {o : Obj} {p : Addr} {v : Value} (h : w.cell? p = some v) (hp : p.block < w.heap.size) : (w.alloc o).cell? p = some v := (((Below.refl _ w).alloc (Nat.le_refl _) o).cell hp).trans h
theorem cell_alloc_lt (w : World) (o : Obj) (k : Nat) (hk : k < w.heap.size) : (w.alloc o).cell? ⟨k, 0, none⟩ = w.cell? ⟨k, 0, none⟩ := ((Below.refl _ w).alloc (Nat.le_refl _) o).cell (p := ⟨k, 0, none⟩) hk
theorem cell_two_new (w : World) (o : Obj) (v : Value) (t : TypeId) (k : Nat) (hk : k = w.heap.size + 1) : ((w.alloc o).alloc (.cells #[v] t)).cell? ⟨k, 0, none⟩ = some v := by
  have e := cell_alloc_new (w.alloc o) v t
  rw [World.size_alloc, ← hk] at e
  exact e
theorem cell_two_old (w : World) (o : Obj) (v : Value) (t : TypeId) (k : Nat) (hk : k = w.heap.size) : ((w.alloc (.cells #[v] t)).alloc o).cell? ⟨k, 0, none⟩ = some v := by
  subst hk
  exact cell_alloc_old (cell_alloc_new w v t) (by simp)
end Go.Proofs.Ytgimdbflpdmlmaa
