/- The table of the eight mixings. No condition. -/
import Derived.Test.YtomlknjpaielgaaB2Small
namespace Go.Proofs.Ytomlknjpaielgaa
set_option maxRecDepth 100000
open Go.RowKit Go.Shelf Go.Proofs.Ytomlknjpaielgaa.B2

def quadL : List Value := [.int .i64 0, .int .i64 4, .int .i64 8, .int .i64 12, .int .i64 1, .int .i64 5, .int .i64 9, .int .i64 13, .int .i64 2, .int .i64 6, .int .i64 10, .int .i64 14, .int .i64 3, .int .i64 7, .int .i64 11, .int .i64 15, .int .i64 0, .int .i64 5, .int .i64 10, .int .i64 15, .int .i64 1, .int .i64 6, .int .i64 11, .int .i64 12, .int .i64 2, .int .i64 7, .int .i64 8, .int .i64 13, .int .i64 3, .int .i64 4, .int .i64 9, .int .i64 14]
theorem wpList_build_to {P : Program} {ops : Array Oper} {rest : List Oper} {o : Oper} {a : Act} {w : World} {Q : Exit → Act → World → Prop} (hg : o.guard = none) (t : TypeId) (parts : Array (Nat × Operand)) (ho : o.op = .build t parts) (A : Array Value)
    (hf : P.built t (parts.map fun (i, x) => (i, a.eval x)).toList = some A)
    (h : wpList P ops Q rest (a.put o.dst (.agg A)) w) : wpList P ops Q (o :: rest) a w :=
  wpList_build hg t parts ho (by rw [hf]; rfl) (by rw [hf]; exact h)
set_option maxHeartbeats 4000000 in
theorem quads_any (w : World) : Calls Try.prog 55 #[] w fun e w' => e = .returned (.agg quadL.toArray) ∧ Below w.heap.size w w' := by
  go_enter Try.func55, Try.ntmps55
  go_wp2_with (first | (refine wpList_build_to (o := ⟨some 9, _, _, _, _, _⟩) rfl 104 _ rfl quadL.toArray (by kernel_rfl) ?_) | (refine wpList_store_arr (o := ⟨none, _, _, _, _, _⟩) rfl 104 _ _ rfl w.heap.size _ (List.replicate 32 (.int .i64 0)) quadL rfl rfl (Arr.new w _ (List.replicate 32 (.int .i64 0))) Try.info32 rfl (by simp [quadL, Value.oneCell']) ?_; intro w' hw' hg))
  exact ret_arr (g := w.heap.size) (xs := quadL) rfl rfl hw' Try.underlying104 Try.info32 rfl ⟨rfl, ((Below.refl _ _).alloc (Nat.le_refl _) _).grown hg (by simp) (fun _ h => by cases h; exact Nat.le_refl _)⟩
end Go.Proofs.Ytomlknjpaielgaa
