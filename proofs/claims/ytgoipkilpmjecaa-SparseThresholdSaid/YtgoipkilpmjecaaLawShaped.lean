/- From a walk of a law to its row, the world's shape handed to the walk. No condition. -/
import Derived.Test.YtgoipkilpmjecaaLaw
import Derived.HandedShaped
namespace Go.Proofs.Ytgoipkilpmjecaa
open Go.ChangeShapes Go.WideShapes Go.ChangeAt Go.RowKit

/-- What a law's walk is handed, the world's shape beside it, and what it must come to. -/
def LawWalkS (K : FuncId) (fK : Func) : Prop :=
  ∀ (H : Type) (enc : TypeId × Value → H) (W : World) (base : Nat) (args : Array Value) (ds : List (DataW H)) (ps : List MemPlace),
    (∀ (j : Nat) t v, fK.params[j]? = some t → args[j]? = some v → Value.okWide Try.prog W .any base t v) →
    DataW.TrodAll enc Try.prog W 0 (fun _ => true) true fK.params.toList args.toList ds ps →
    (DataW.weightsEach Try.prog fK.params.toList ds).all (· ≤ reachBytes) = true → W.ShapedOpen Try.prog →
    Calls Try.prog K args W fun e W' => e = .returned (.bool true) ∧ Below W.heap.size W W'

theorem law_contract_shaped {K : FuncId} {fK : Func} {s : ChangeSpec} (hr : fK.resultTypes = #[4]) (hpb : (fK.params.toList.all fun t => Try.prog.readableRec t && decide (t < Try.prog.types.size)) = true)
    (hs : IsLaw s fK.params.toList.length) (hw : LawWalkS K fK) {H : Type} {enc : TypeId × Value → H} {conds : List PathCond} {a : Assume}
    (W : World) (base : Nat) (args : Array Value) (ds gs : List (DataW H)) (before : List MemPlace)
    (hval : ∀ (j : Nat) t v, fK.params[j]? = some t → args[j]? = some v → Value.okWide Try.prog W .any base t v)
    (hW : DataW.Whole enc Try.prog fK.params.toList s.vars false W args.toList ds gs before)
    (_hc : conds.all (PathCond.test Try.prog ⟨fK.params.toList, ds, s.plain.varTypes Try.prog, gs⟩) = true)
    (hsz : (DataW.weightsEach Try.prog (fK.params.toList ++ s.plain.varTypes Try.prog) (ds ++ gs)).all (· ≤ reachBytes) = true)
    (hsh : W.ShapedOpen Try.prog)
    (_hh : a.holds Try.prog (lone (Frame.enter Try.prog K args .normal) [] W)) :
    Calls Try.prog K args W fun e W' => ∃ v, e = .returned v ∧ s.post enc Try.prog fK false true false false W args v W' := by
  have hp : ∀ t ∈ fK.params.toList, Try.prog.readableRec t = true ∧ t < Try.prog.types.size := fun t ht => by
    have := List.all_eq_true.1 hpb t ht
    simp only [Bool.and_eq_true, decide_eq_true_eq] at this
    exact this
  have hW' := hW
  obtain ⟨p, q, hA, hV, rfl, hfz, hnd⟩ := hW
  rw [hs.vars] at hV
  obtain ⟨rfl, rfl⟩ := trodVars_none hV
  have hvt : s.plain.varTypes Try.prog = [] := by
    unfold ChangeSpec.plain DataSpec.varTypes
    simp [hs.vars]
  rw [hvt, List.append_nil, List.append_nil] at hsz
  have hlen := (trodAll_length _ _ _ _ hA).2
  have hlt : ∀ x ∈ p, x.block < W.heap.size := fun x hx => hW'.lt x (List.mem_append_left _ hx)
  refine (hw H enc W base args ds p hval hA hsz hsh).mono fun e W' ⟨he, bel⟩ => ?_
  subst he
  have hsay := hs.says H ds hlen
  refine ⟨_, rfl, ds, [], _, [], p, [], hW', ?_, ?_, ?_, bel.frame _, fun h => by cases h⟩
  · rw [List.append_nil, hsay, hr]
    exact trodAll_mk1 (shut_bool Try.underlying4 _)
  · rw [List.append_nil, hsay]
    exact trodAll_below bel _ _ _ _ hp hlt hA
  · rw [List.append_nil, hsay, hs.vars]
    rfl
end Go.Proofs.Ytgoipkilpmjecaa
