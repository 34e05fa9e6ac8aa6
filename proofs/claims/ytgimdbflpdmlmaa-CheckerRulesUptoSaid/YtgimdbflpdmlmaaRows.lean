/-
  NARROWER THAN 'FOR EVERY INPUT', by the rows' own cells (each row's printed sentence says how): CheckerRules: loops · CheckerScalars: loops · CheckerIndependent: loops · CheckerAddresses: loops · CheckerRemoval: loops.
  DERIVED. THE GIVEN ROWS OF THIS SEAT. 8 by the template 'for every input the law returns true; each argument reads behind the call as it read before'; 0 by the template 'total and deterministic' (their statements: YtgimdbflpdmlmaaTotals.lean).
  GIVEN WITH THE SEED: the statements are not yours to turn. If you find one false, say at which input.
  Laid BY PROGRAM, IN A SANDBOX (cutbox-rows.mjs): the forced cells as the released guide's own fill.sh prints them over the translation 1ebc804b50227c5d… (all of the seat's roots in one cut). By AI agents, Wed Nov 11 2026. No macro, syntax, notation, axiom, sorry.
-/
import Derived.Test.YtgimdbflpdmlmaaChecked
import GoSem.Claim
import GoSem.ClaimJoined
import GoSem.ClaimMapViews
import Derived.JoinedTies
import Derived.KernelRfl
namespace Go.Proofs.Ytgimdbflpdmlmaa
/- THE CELL 'sum', in the pinned program and in every row, IS THE sha256 OF THE DUMP (.gsa) THAT YtgimdbflpdmlmaaProg.lean LOADS. Nothing in Lean hashes anything: it is a label: what it is worth is what the hold of that sum in a sandbox is worth. -/
noncomputable def Try.pinned : Pinned := { name := "ytgimdbflpdmlmaa", sum := "1ebc804b50227c5d81e463833cf15d71544db809afdcf906130ae80325765706", checked := Try.checked }
namespace Rows
def none {H : Type} : Left H := { results := [], args := [] }

/-- 'stelelaw21.CheckerRules': WHATEVER THE INPUT: true; the input reads as it did. -/
def checkerRulesSpec : ChangeSpec := { name := "checkerRules", fn := fun _ => fun
  | [d] => { results := [.lit (.bool true)], args := [d] }
  | _ => none }
def checkerRulesRow : OpenClaim := { program := "ytgimdbflpdmlmaa", sum := "1ebc804b50227c5d81e463833cf15d71544db809afdcf906130ae80325765706", func := "stele/stelelaw21.CheckerRules", spec := "checkerRules", unfollowed := true, recurses := true, loops := true, apart := false }
def CheckerRulesSaid : Prop := checkerRulesRow.holds Try.pinned (OpenSpec.ofChange checkerRulesSpec)

/-- ITS FALSE NEIGHBOUR: 'it returns false'. Refute it at one input. -/
def checkerRulesWrong : ChangeSpec := { name := "checkerRules", fn := fun _ => fun
  | [d] => { results := [.lit (.bool false)], args := [d] }
  | _ => none }
def CheckerRulesWrongFalsely : Prop := checkerRulesRow.holds Try.pinned (OpenSpec.ofChange checkerRulesWrong)

/-- 'stelelaw21.CheckerScalars': WHATEVER THE INPUT: true; the input reads as it did. -/
def checkerScalarsSpec : ChangeSpec := { name := "checkerScalars", fn := fun _ => fun
  | [d] => { results := [.lit (.bool true)], args := [d] }
  | _ => none }
def checkerScalarsRow : OpenClaim := { program := "ytgimdbflpdmlmaa", sum := "1ebc804b50227c5d81e463833cf15d71544db809afdcf906130ae80325765706", func := "stele/stelelaw21.CheckerScalars", spec := "checkerScalars", unfollowed := true, recurses := true, loops := true, apart := false }
def CheckerScalarsSaid : Prop := checkerScalarsRow.holds Try.pinned (OpenSpec.ofChange checkerScalarsSpec)

/-- ITS FALSE NEIGHBOUR: 'it returns false'. Refute it at one input. -/
def checkerScalarsWrong : ChangeSpec := { name := "checkerScalars", fn := fun _ => fun
  | [d] => { results := [.lit (.bool false)], args := [d] }
  | _ => none }
def CheckerScalarsWrongFalsely : Prop := checkerScalarsRow.holds Try.pinned (OpenSpec.ofChange checkerScalarsWrong)

/-- 'stelelaw21.CheckerNesting': WHATEVER THE INPUT: true; the input reads as it did. -/
def checkerNestingSpec : ChangeSpec := { name := "checkerNesting", fn := fun _ => fun
  | [d] => { results := [.lit (.bool true)], args := [d] }
  | _ => none }
def checkerNestingRow : OpenClaim := { program := "ytgimdbflpdmlmaa", sum := "1ebc804b50227c5d81e463833cf15d71544db809afdcf906130ae80325765706", func := "stele/stelelaw21.CheckerNesting", spec := "checkerNesting", unfollowed := true, recurses := true, apart := false }
def CheckerNestingSaid : Prop := checkerNestingRow.holds Try.pinned (OpenSpec.ofChange checkerNestingSpec)

/-- ITS FALSE NEIGHBOUR: 'it returns false'. Refute it at one input. -/
def checkerNestingWrong : ChangeSpec := { name := "checkerNesting", fn := fun _ => fun
  | [d] => { results := [.lit (.bool false)], args := [d] }
  | _ => none }
def CheckerNestingWrongFalsely : Prop := checkerNestingRow.holds Try.pinned (OpenSpec.ofChange checkerNestingWrong)

/-- 'stelelaw21.CheckerForward': WHATEVER THE INPUT: true; the input reads as it did. -/
def checkerForwardSpec : ChangeSpec := { name := "checkerForward", fn := fun _ => fun
  | [d1, d2, d3] => { results := [.lit (.bool true)], args := [d1, d2, d3] }
  | _ => none }
def checkerForwardRow : OpenClaim := { program := "ytgimdbflpdmlmaa", sum := "1ebc804b50227c5d81e463833cf15d71544db809afdcf906130ae80325765706", func := "stele/stelelaw21.CheckerForward", spec := "checkerForward", unfollowed := true, recurses := true, apart := false }
def CheckerForwardSaid : Prop := checkerForwardRow.holds Try.pinned (OpenSpec.ofChange checkerForwardSpec)

/-- ITS FALSE NEIGHBOUR: 'it returns false'. Refute it at one input. -/
def checkerForwardWrong : ChangeSpec := { name := "checkerForward", fn := fun _ => fun
  | [d1, d2, d3] => { results := [.lit (.bool false)], args := [d1, d2, d3] }
  | _ => none }
def CheckerForwardWrongFalsely : Prop := checkerForwardRow.holds Try.pinned (OpenSpec.ofChange checkerForwardWrong)

/-- 'stelelaw21.CheckerIndependent': WHATEVER THE INPUT: true; the input reads as it did. -/
def checkerIndependentSpec : ChangeSpec := { name := "checkerIndependent", fn := fun _ => fun
  | [d1, d2] => { results := [.lit (.bool true)], args := [d1, d2] }
  | _ => none }
def checkerIndependentRow : OpenClaim := { program := "ytgimdbflpdmlmaa", sum := "1ebc804b50227c5d81e463833cf15d71544db809afdcf906130ae80325765706", func := "stele/stelelaw21.CheckerIndependent", spec := "checkerIndependent", unfollowed := true, recurses := true, loops := true, apart := false }
def CheckerIndependentSaid : Prop := checkerIndependentRow.holds Try.pinned (OpenSpec.ofChange checkerIndependentSpec)

/-- ITS FALSE NEIGHBOUR: 'it returns false'. Refute it at one input. -/
def checkerIndependentWrong : ChangeSpec := { name := "checkerIndependent", fn := fun _ => fun
  | [d1, d2] => { results := [.lit (.bool false)], args := [d1, d2] }
  | _ => none }
def CheckerIndependentWrongFalsely : Prop := checkerIndependentRow.holds Try.pinned (OpenSpec.ofChange checkerIndependentWrong)

/-- 'stelelaw21.CheckerAddresses': WHATEVER THE INPUT: true; the input reads as it did. -/
def checkerAddressesSpec : ChangeSpec := { name := "checkerAddresses", fn := fun _ => fun
  | [d1, d2] => { results := [.lit (.bool true)], args := [d1, d2] }
  | _ => none }
def checkerAddressesRow : OpenClaim := { program := "ytgimdbflpdmlmaa", sum := "1ebc804b50227c5d81e463833cf15d71544db809afdcf906130ae80325765706", func := "stele/stelelaw21.CheckerAddresses", spec := "checkerAddresses", unfollowed := true, recurses := true, loops := true, apart := false }
def CheckerAddressesSaid : Prop := checkerAddressesRow.holds Try.pinned (OpenSpec.ofChange checkerAddressesSpec)

/-- ITS FALSE NEIGHBOUR: 'it returns false'. Refute it at one input. -/
def checkerAddressesWrong : ChangeSpec := { name := "checkerAddresses", fn := fun _ => fun
  | [d1, d2] => { results := [.lit (.bool false)], args := [d1, d2] }
  | _ => none }
def CheckerAddressesWrongFalsely : Prop := checkerAddressesRow.holds Try.pinned (OpenSpec.ofChange checkerAddressesWrong)

/-- 'stelelaw21.CheckerChain': WHATEVER THE INPUT: true; the input reads as it did. -/
def checkerChainSpec : ChangeSpec := { name := "checkerChain", fn := fun _ => fun
  | [d] => { results := [.lit (.bool true)], args := [d] }
  | _ => none }
def checkerChainRow : OpenClaim := { program := "ytgimdbflpdmlmaa", sum := "1ebc804b50227c5d81e463833cf15d71544db809afdcf906130ae80325765706", func := "stele/stelelaw21.CheckerChain", spec := "checkerChain", inPlace := ["internal/abi.NoEscape", "internal/bytealg.MakeNoZero"], unfollowed := true, recurses := true, apart := false }
def CheckerChainSaid : Prop := checkerChainRow.holds Try.pinned (OpenSpec.ofChange checkerChainSpec)

/-- ITS FALSE NEIGHBOUR: 'it returns false'. Refute it at one input. -/
def checkerChainWrong : ChangeSpec := { name := "checkerChain", fn := fun _ => fun
  | [d] => { results := [.lit (.bool false)], args := [d] }
  | _ => none }
def CheckerChainWrongFalsely : Prop := checkerChainRow.holds Try.pinned (OpenSpec.ofChange checkerChainWrong)

/-- 'stelelaw21.CheckerRemoval': WHATEVER THE INPUT: true; the input reads as it did. -/
def checkerRemovalSpec : ChangeSpec := { name := "checkerRemoval", fn := fun _ => fun
  | [d1, d2] => { results := [.lit (.bool true)], args := [d1, d2] }
  | _ => none }
def checkerRemovalRow : OpenClaim := { program := "ytgimdbflpdmlmaa", sum := "1ebc804b50227c5d81e463833cf15d71544db809afdcf906130ae80325765706", func := "stele/stelelaw21.CheckerRemoval", spec := "checkerRemoval", inPlace := ["internal/abi.NoEscape", "internal/bytealg.MakeNoZero", "internal/bytealg.IndexByteString", "internal/bytealg.IndexString"], unfollowed := true, recurses := true, named := ["internal/bytealg.MaxLen"], loops := true, apart := false }
def CheckerRemovalSaid : Prop := checkerRemovalRow.holds Try.pinned (OpenSpec.ofChange checkerRemovalSpec)

/-- ITS FALSE NEIGHBOUR: 'it returns false'. Refute it at one input. -/
def checkerRemovalWrong : ChangeSpec := { name := "checkerRemoval", fn := fun _ => fun
  | [d1, d2] => { results := [.lit (.bool false)], args := [d1, d2] }
  | _ => none }
def CheckerRemovalWrongFalsely : Prop := checkerRemovalRow.holds Try.pinned (OpenSpec.ofChange checkerRemovalWrong)

/- THE SECOND FORM. 'bulk': how many values and letters a reading holds, each counted each time it is reached (what is shared counts as often as it is met; a slice's spare places count too). A statement '..UptoSaid' is the law's where the arguments, and the package variables that the reading takes, are together of bulk at most 1048576: NARROWER than '..Said'. Prove '..Said' where nothing that the law and all that it calls make is longer than what came in: it says more and counts as full. Else prove '..UptoSaid'. A law counts once. -/
mutual
def uptoBulk {H : Type} : DataW H → Nat
  | .lit (.string bytes) => bytes.length + 1
  | .lit _ => 1
  | .nil => 1
  | .ptr d => uptoBulk d + 1
  | .slice elems spare => uptoBulkAll elems + uptoBulkAll spare + 1
  | .agg parts => uptoBulkAll parts + 1
  | .iface _ d => uptoBulk d + 1
  | .map entries => uptoBulkEntries entries + 1
  | .held _ => 1
def uptoBulkAll {H : Type} : List (DataW H) → Nat
  | [] => 0
  | d :: r => uptoBulk d + uptoBulkAll r
def uptoBulkEntries {H : Type} : List (Lit × DataW H) → Nat
  | [] => 0
  | x :: r => uptoBulkEntry x + uptoBulkEntries r
def uptoBulkEntry {H : Type} : Lit × DataW H → Nat
  | (.string bytes, d) => bytes.length + uptoBulk d + 1
  | (_, d) => uptoBulk d + 1
 end
def uptoSmall : (H : Type) → List (DataW H) → Bool := fun _ ds => decide (uptoBulkAll ds ≤ 1048576)
def OpenSpec.upto (s : _root_.Go.ChangeSpec) : _root_.Go.OpenSpec := { _root_.Go.OpenSpec.ofChange s with cond := some uptoSmall }

/-- 'stelelaw21.CheckerRules', WHERE WHAT IT READS IS OF BULK AT MOST 1048576: true; the input reads as it did. -/
def checkerRulesUptoRow : OpenClaim := { program := "ytgimdbflpdmlmaa", sum := "1ebc804b50227c5d81e463833cf15d71544db809afdcf906130ae80325765706", func := "stele/stelelaw21.CheckerRules", spec := "checkerRules", unfollowed := true, recurses := true, loops := true, apart := false, narrowed := true }
def CheckerRulesUptoSaid : Prop := checkerRulesUptoRow.holds Try.pinned (OpenSpec.upto checkerRulesSpec)

/-- 'stelelaw21.CheckerScalars', WHERE WHAT IT READS IS OF BULK AT MOST 1048576: true; the input reads as it did. -/
def checkerScalarsUptoRow : OpenClaim := { program := "ytgimdbflpdmlmaa", sum := "1ebc804b50227c5d81e463833cf15d71544db809afdcf906130ae80325765706", func := "stele/stelelaw21.CheckerScalars", spec := "checkerScalars", unfollowed := true, recurses := true, loops := true, apart := false, narrowed := true }
def CheckerScalarsUptoSaid : Prop := checkerScalarsUptoRow.holds Try.pinned (OpenSpec.upto checkerScalarsSpec)

/-- 'stelelaw21.CheckerNesting', WHERE WHAT IT READS IS OF BULK AT MOST 1048576: true; the input reads as it did. -/
def checkerNestingUptoRow : OpenClaim := { program := "ytgimdbflpdmlmaa", sum := "1ebc804b50227c5d81e463833cf15d71544db809afdcf906130ae80325765706", func := "stele/stelelaw21.CheckerNesting", spec := "checkerNesting", unfollowed := true, recurses := true, apart := false, narrowed := true }
def CheckerNestingUptoSaid : Prop := checkerNestingUptoRow.holds Try.pinned (OpenSpec.upto checkerNestingSpec)

/-- 'stelelaw21.CheckerForward', WHERE WHAT IT READS IS OF BULK AT MOST 1048576: true; the input reads as it did. -/
def checkerForwardUptoRow : OpenClaim := { program := "ytgimdbflpdmlmaa", sum := "1ebc804b50227c5d81e463833cf15d71544db809afdcf906130ae80325765706", func := "stele/stelelaw21.CheckerForward", spec := "checkerForward", unfollowed := true, recurses := true, apart := false, narrowed := true }
def CheckerForwardUptoSaid : Prop := checkerForwardUptoRow.holds Try.pinned (OpenSpec.upto checkerForwardSpec)

/-- 'stelelaw21.CheckerIndependent', WHERE WHAT IT READS IS OF BULK AT MOST 1048576: true; the input reads as it did. -/
def checkerIndependentUptoRow : OpenClaim := { program := "ytgimdbflpdmlmaa", sum := "1ebc804b50227c5d81e463833cf15d71544db809afdcf906130ae80325765706", func := "stele/stelelaw21.CheckerIndependent", spec := "checkerIndependent", unfollowed := true, recurses := true, loops := true, apart := false, narrowed := true }
def CheckerIndependentUptoSaid : Prop := checkerIndependentUptoRow.holds Try.pinned (OpenSpec.upto checkerIndependentSpec)

/-- 'stelelaw21.CheckerAddresses', WHERE WHAT IT READS IS OF BULK AT MOST 1048576: true; the input reads as it did. -/
def checkerAddressesUptoRow : OpenClaim := { program := "ytgimdbflpdmlmaa", sum := "1ebc804b50227c5d81e463833cf15d71544db809afdcf906130ae80325765706", func := "stele/stelelaw21.CheckerAddresses", spec := "checkerAddresses", unfollowed := true, recurses := true, loops := true, apart := false, narrowed := true }
def CheckerAddressesUptoSaid : Prop := checkerAddressesUptoRow.holds Try.pinned (OpenSpec.upto checkerAddressesSpec)

/-- 'stelelaw21.CheckerChain', WHERE WHAT IT READS IS OF BULK AT MOST 1048576: true; the input reads as it did. -/
def checkerChainUptoRow : OpenClaim := { program := "ytgimdbflpdmlmaa", sum := "1ebc804b50227c5d81e463833cf15d71544db809afdcf906130ae80325765706", func := "stele/stelelaw21.CheckerChain", spec := "checkerChain", inPlace := ["internal/abi.NoEscape", "internal/bytealg.MakeNoZero"], unfollowed := true, recurses := true, apart := false, narrowed := true }
def CheckerChainUptoSaid : Prop := checkerChainUptoRow.holds Try.pinned (OpenSpec.upto checkerChainSpec)

/-- 'stelelaw21.CheckerRemoval', WHERE WHAT IT READS IS OF BULK AT MOST 1048576: true; the input reads as it did. -/
def checkerRemovalUptoRow : OpenClaim := { program := "ytgimdbflpdmlmaa", sum := "1ebc804b50227c5d81e463833cf15d71544db809afdcf906130ae80325765706", func := "stele/stelelaw21.CheckerRemoval", spec := "checkerRemoval", inPlace := ["internal/abi.NoEscape", "internal/bytealg.MakeNoZero", "internal/bytealg.IndexByteString", "internal/bytealg.IndexString"], unfollowed := true, recurses := true, named := ["internal/bytealg.MaxLen"], loops := true, apart := false, narrowed := true }
def CheckerRemovalUptoSaid : Prop := checkerRemovalUptoRow.holds Try.pinned (OpenSpec.upto checkerRemovalSpec)

end Rows
end Go.Proofs.Ytgimdbflpdmlmaa
