/-
  No cell of these rows narrows 'for every input' (looked for: loops, veiled, ifaces, maps, wideKeys, modest, calm, conditions, laid).
  DERIVED. THE GIVEN ROWS OF THIS SEAT. 7 by the template 'for every input the law returns true; each argument reads behind the call as it read before'; 0 by the template 'total and deterministic' (their statements: YtofhokggcpeldaaTotals.lean).
  GIVEN WITH THE SEED: the statements are not yours to turn. If you find one false, say at which input.
  Laid BY PROGRAM, IN A SANDBOX (cutbox-rows.mjs): the forced cells as the released guide's own fill.sh prints them over the translation cd651f2305ef54ed… (all of the seat's roots in one cut). By AI agents, Wed Nov 11 2026. No macro, syntax, notation, axiom, sorry.
-/
import Derived.Test.YtofhokggcpeldaaChecked
import GoSem.Claim
import GoSem.ClaimJoined
import GoSem.ClaimMapViews
import Derived.JoinedTies
import Derived.KernelRfl
namespace Go.Proofs.Ytofhokggcpeldaa
/- THE CELL 'sum', in the pinned program and in every row, IS THE sha256 OF THE DUMP (.gsa) THAT YtofhokggcpeldaaProg.lean LOADS. Nothing in Lean hashes anything: it is a label: what it is worth is what the hold of that sum in a sandbox is worth. -/
noncomputable def Try.pinned : Pinned := { name := "ytofhokggcpeldaa", sum := "cd651f2305ef54edc890b1001d98f3a0488bb6a485c351013bf76e415ec317e7", checked := Try.checked }
namespace Rows
def none {H : Type} : Left H := { results := [], args := [] }

/-- 'stelelaw51.TableLines': WHATEVER THE INPUT: true; the input reads as it did. -/
def tableLinesSpec : ChangeSpec := { name := "tableLines", fn := fun _ => fun
  | [d] => { results := [.lit (.bool true)], args := [d] }
  | _ => none }
def tableLinesRow : OpenClaim := { program := "ytofhokggcpeldaa", sum := "cd651f2305ef54edc890b1001d98f3a0488bb6a485c351013bf76e415ec317e7", func := "stele/stelelaw51.TableLines", spec := "tableLines", inPlace := ["internal/abi.NoEscape", "internal/bytealg.MakeNoZero"], unfollowed := true, recurses := true, apart := false }
def TableLinesSaid : Prop := tableLinesRow.holds Try.pinned (OpenSpec.ofChange tableLinesSpec)

/-- ITS FALSE NEIGHBOUR: 'it returns false'. Refute it at one input. -/
def tableLinesWrong : ChangeSpec := { name := "tableLines", fn := fun _ => fun
  | [d] => { results := [.lit (.bool false)], args := [d] }
  | _ => none }
def TableLinesWrongFalsely : Prop := tableLinesRow.holds Try.pinned (OpenSpec.ofChange tableLinesWrong)

/-- 'stelelaw51.TableAlignment': WHATEVER THE INPUT: true; the input reads as it did. -/
def tableAlignmentSpec : ChangeSpec := { name := "tableAlignment", fn := fun _ => fun
  | [d] => { results := [.lit (.bool true)], args := [d] }
  | _ => none }
def tableAlignmentRow : OpenClaim := { program := "ytofhokggcpeldaa", sum := "cd651f2305ef54edc890b1001d98f3a0488bb6a485c351013bf76e415ec317e7", func := "stele/stelelaw51.TableAlignment", spec := "tableAlignment", inPlace := ["internal/abi.NoEscape", "internal/bytealg.MakeNoZero"], unfollowed := true, recurses := true, apart := false }
def TableAlignmentSaid : Prop := tableAlignmentRow.holds Try.pinned (OpenSpec.ofChange tableAlignmentSpec)

/-- ITS FALSE NEIGHBOUR: 'it returns false'. Refute it at one input. -/
def tableAlignmentWrong : ChangeSpec := { name := "tableAlignment", fn := fun _ => fun
  | [d] => { results := [.lit (.bool false)], args := [d] }
  | _ => none }
def TableAlignmentWrongFalsely : Prop := tableAlignmentRow.holds Try.pinned (OpenSpec.ofChange tableAlignmentWrong)

/-- 'stelelaw51.TableCells': WHATEVER THE INPUT: true; the input reads as it did. -/
def tableCellsSpec : ChangeSpec := { name := "tableCells", fn := fun _ => fun
  | [d] => { results := [.lit (.bool true)], args := [d] }
  | _ => none }
def tableCellsRow : OpenClaim := { program := "ytofhokggcpeldaa", sum := "cd651f2305ef54edc890b1001d98f3a0488bb6a485c351013bf76e415ec317e7", func := "stele/stelelaw51.TableCells", spec := "tableCells", inPlace := ["internal/abi.NoEscape", "internal/bytealg.MakeNoZero"], unfollowed := true, recurses := true, apart := false }
def TableCellsSaid : Prop := tableCellsRow.holds Try.pinned (OpenSpec.ofChange tableCellsSpec)

/-- ITS FALSE NEIGHBOUR: 'it returns false'. Refute it at one input. -/
def tableCellsWrong : ChangeSpec := { name := "tableCells", fn := fun _ => fun
  | [d] => { results := [.lit (.bool false)], args := [d] }
  | _ => none }
def TableCellsWrongFalsely : Prop := tableCellsRow.holds Try.pinned (OpenSpec.ofChange tableCellsWrong)

/-- 'stelelaw51.TableAppends': WHATEVER THE INPUT: true; the input reads as it did. -/
def tableAppendsSpec : ChangeSpec := { name := "tableAppends", fn := fun _ => fun
  | [d1, d2] => { results := [.lit (.bool true)], args := [d1, d2] }
  | _ => none }
def tableAppendsRow : OpenClaim := { program := "ytofhokggcpeldaa", sum := "cd651f2305ef54edc890b1001d98f3a0488bb6a485c351013bf76e415ec317e7", func := "stele/stelelaw51.TableAppends", spec := "tableAppends", inPlace := ["internal/abi.NoEscape", "internal/bytealg.MakeNoZero"], unfollowed := true, recurses := true, apart := false }
def TableAppendsSaid : Prop := tableAppendsRow.holds Try.pinned (OpenSpec.ofChange tableAppendsSpec)

/-- ITS FALSE NEIGHBOUR: 'it returns false'. Refute it at one input. -/
def tableAppendsWrong : ChangeSpec := { name := "tableAppends", fn := fun _ => fun
  | [d1, d2] => { results := [.lit (.bool false)], args := [d1, d2] }
  | _ => none }
def TableAppendsWrongFalsely : Prop := tableAppendsRow.holds Try.pinned (OpenSpec.ofChange tableAppendsWrong)

/-- 'stelelaw51.TablePadding': WHATEVER THE INPUT: true; the input reads as it did. -/
def tablePaddingSpec : ChangeSpec := { name := "tablePadding", fn := fun _ => fun
  | [d] => { results := [.lit (.bool true)], args := [d] }
  | _ => none }
def tablePaddingRow : OpenClaim := { program := "ytofhokggcpeldaa", sum := "cd651f2305ef54edc890b1001d98f3a0488bb6a485c351013bf76e415ec317e7", func := "stele/stelelaw51.TablePadding", spec := "tablePadding", inPlace := ["internal/abi.NoEscape", "internal/bytealg.MakeNoZero"], unfollowed := true, recurses := true, apart := false }
def TablePaddingSaid : Prop := tablePaddingRow.holds Try.pinned (OpenSpec.ofChange tablePaddingSpec)

/-- ITS FALSE NEIGHBOUR: 'it returns false'. Refute it at one input. -/
def tablePaddingWrong : ChangeSpec := { name := "tablePadding", fn := fun _ => fun
  | [d] => { results := [.lit (.bool false)], args := [d] }
  | _ => none }
def TablePaddingWrongFalsely : Prop := tablePaddingRow.holds Try.pinned (OpenSpec.ofChange tablePaddingWrong)

/-- 'stelelaw51.TableOrder': WHATEVER THE INPUT: true; the input reads as it did. -/
def tableOrderSpec : ChangeSpec := { name := "tableOrder", fn := fun _ => fun
  | [d1, d2, d3] => { results := [.lit (.bool true)], args := [d1, d2, d3] }
  | _ => none }
def tableOrderRow : OpenClaim := { program := "ytofhokggcpeldaa", sum := "cd651f2305ef54edc890b1001d98f3a0488bb6a485c351013bf76e415ec317e7", func := "stele/stelelaw51.TableOrder", spec := "tableOrder", inPlace := ["internal/abi.NoEscape", "internal/bytealg.MakeNoZero"], unfollowed := true, recurses := true, apart := false }
def TableOrderSaid : Prop := tableOrderRow.holds Try.pinned (OpenSpec.ofChange tableOrderSpec)

/-- ITS FALSE NEIGHBOUR: 'it returns false'. Refute it at one input. -/
def tableOrderWrong : ChangeSpec := { name := "tableOrder", fn := fun _ => fun
  | [d1, d2, d3] => { results := [.lit (.bool false)], args := [d1, d2, d3] }
  | _ => none }
def TableOrderWrongFalsely : Prop := tableOrderRow.holds Try.pinned (OpenSpec.ofChange tableOrderWrong)

/-- 'stelelaw51.TableWidths': WHATEVER THE INPUT: true; the input reads as it did. -/
def tableWidthsSpec : ChangeSpec := { name := "tableWidths", fn := fun _ => fun
  | [d1, d2] => { results := [.lit (.bool true)], args := [d1, d2] }
  | _ => none }
def tableWidthsRow : OpenClaim := { program := "ytofhokggcpeldaa", sum := "cd651f2305ef54edc890b1001d98f3a0488bb6a485c351013bf76e415ec317e7", func := "stele/stelelaw51.TableWidths", spec := "tableWidths", inPlace := ["internal/abi.NoEscape", "internal/bytealg.MakeNoZero"], unfollowed := true, recurses := true, apart := false }
def TableWidthsSaid : Prop := tableWidthsRow.holds Try.pinned (OpenSpec.ofChange tableWidthsSpec)

/-- ITS FALSE NEIGHBOUR: 'it returns false'. Refute it at one input. -/
def tableWidthsWrong : ChangeSpec := { name := "tableWidths", fn := fun _ => fun
  | [d1, d2] => { results := [.lit (.bool false)], args := [d1, d2] }
  | _ => none }
def TableWidthsWrongFalsely : Prop := tableWidthsRow.holds Try.pinned (OpenSpec.ofChange tableWidthsWrong)

/- THE SECOND FORM. 'bulk': how many values and letters a reading holds, each counted each time it is reached (what is shared counts as often as it is met; a slice's spare places count too). A statement '..UptoSaid' is the law's where the arguments, and the package variables that the reading takes, are together of bulk at most 1048576: NARROWER than '..Said'. Prove '..Said' where nothing that the law and all that it calls make is longer than what came in: it says more and counts as full. Else prove '..UptoSaid'. A law counts once. -/
mutual
def uptoBulk {H : Type} : DataW H → Nat
  | .lit (.string bytes) => bytes.length + 1
  | .lit _ => 1
  | .nil => 1
  | .ptr d => uptoBulk d + 1
  | .slice elems spare => uptoBulkAll elems + uptoBulkAll spare + 1
  | .agg parts => uptoBulkAll parts + 1
  | .iface _ d => uptoBulk d + 1
  | .map entries => uptoBulkEntries entries + 1
  | .held _ => 1
def uptoBulkAll {H : Type} : List (DataW H) → Nat
  | [] => 0
  | d :: r => uptoBulk d + uptoBulkAll r
def uptoBulkEntries {H : Type} : List (Lit × DataW H) → Nat
  | [] => 0
  | x :: r => uptoBulkEntry x + uptoBulkEntries r
def uptoBulkEntry {H : Type} : Lit × DataW H → Nat
  | (.string bytes, d) => bytes.length + uptoBulk d + 1
  | (_, d) => uptoBulk d + 1
 end
def uptoSmall : (H : Type) → List (DataW H) → Bool := fun _ ds => decide (uptoBulkAll ds ≤ 1048576)
def OpenSpec.upto (s : _root_.Go.ChangeSpec) : _root_.Go.OpenSpec := { _root_.Go.OpenSpec.ofChange s with cond := some uptoSmall }

/-- 'stelelaw51.TableLines', WHERE WHAT IT READS IS OF BULK AT MOST 1048576: true; the input reads as it did. -/
def tableLinesUptoRow : OpenClaim := { program := "ytofhokggcpeldaa", sum := "cd651f2305ef54edc890b1001d98f3a0488bb6a485c351013bf76e415ec317e7", func := "stele/stelelaw51.TableLines", spec := "tableLines", inPlace := ["internal/abi.NoEscape", "internal/bytealg.MakeNoZero"], unfollowed := true, recurses := true, apart := false, narrowed := true }
def TableLinesUptoSaid : Prop := tableLinesUptoRow.holds Try.pinned (OpenSpec.upto tableLinesSpec)

/-- 'stelelaw51.TableAlignment', WHERE WHAT IT READS IS OF BULK AT MOST 1048576: true; the input reads as it did. -/
def tableAlignmentUptoRow : OpenClaim := { program := "ytofhokggcpeldaa", sum := "cd651f2305ef54edc890b1001d98f3a0488bb6a485c351013bf76e415ec317e7", func := "stele/stelelaw51.TableAlignment", spec := "tableAlignment", inPlace := ["internal/abi.NoEscape", "internal/bytealg.MakeNoZero"], unfollowed := true, recurses := true, apart := false, narrowed := true }
def TableAlignmentUptoSaid : Prop := tableAlignmentUptoRow.holds Try.pinned (OpenSpec.upto tableAlignmentSpec)

/-- 'stelelaw51.TableCells', WHERE WHAT IT READS IS OF BULK AT MOST 1048576: true; the input reads as it did. -/
def tableCellsUptoRow : OpenClaim := { program := "ytofhokggcpeldaa", sum := "cd651f2305ef54edc890b1001d98f3a0488bb6a485c351013bf76e415ec317e7", func := "stele/stelelaw51.TableCells", spec := "tableCells", inPlace := ["internal/abi.NoEscape", "internal/bytealg.MakeNoZero"], unfollowed := true, recurses := true, apart := false, narrowed := true }
def TableCellsUptoSaid : Prop := tableCellsUptoRow.holds Try.pinned (OpenSpec.upto tableCellsSpec)

/-- 'stelelaw51.TableAppends', WHERE WHAT IT READS IS OF BULK AT MOST 1048576: true; the input reads as it did. -/
def tableAppendsUptoRow : OpenClaim := { program := "ytofhokggcpeldaa", sum := "cd651f2305ef54edc890b1001d98f3a0488bb6a485c351013bf76e415ec317e7", func := "stele/stelelaw51.TableAppends", spec := "tableAppends", inPlace := ["internal/abi.NoEscape", "internal/bytealg.MakeNoZero"], unfollowed := true, recurses := true, apart := false, narrowed := true }
def TableAppendsUptoSaid : Prop := tableAppendsUptoRow.holds Try.pinned (OpenSpec.upto tableAppendsSpec)

/-- 'stelelaw51.TablePadding', WHERE WHAT IT READS IS OF BULK AT MOST 1048576: true; the input reads as it did. -/
def tablePaddingUptoRow : OpenClaim := { program := "ytofhokggcpeldaa", sum := "cd651f2305ef54edc890b1001d98f3a0488bb6a485c351013bf76e415ec317e7", func := "stele/stelelaw51.TablePadding", spec := "tablePadding", inPlace := ["internal/abi.NoEscape", "internal/bytealg.MakeNoZero"], unfollowed := true, recurses := true, apart := false, narrowed := true }
def TablePaddingUptoSaid : Prop := tablePaddingUptoRow.holds Try.pinned (OpenSpec.upto tablePaddingSpec)

/-- 'stelelaw51.TableOrder', WHERE WHAT IT READS IS OF BULK AT MOST 1048576: true; the input reads as it did. -/
def tableOrderUptoRow : OpenClaim := { program := "ytofhokggcpeldaa", sum := "cd651f2305ef54edc890b1001d98f3a0488bb6a485c351013bf76e415ec317e7", func := "stele/stelelaw51.TableOrder", spec := "tableOrder", inPlace := ["internal/abi.NoEscape", "internal/bytealg.MakeNoZero"], unfollowed := true, recurses := true, apart := false, narrowed := true }
def TableOrderUptoSaid : Prop := tableOrderUptoRow.holds Try.pinned (OpenSpec.upto tableOrderSpec)

/-- 'stelelaw51.TableWidths', WHERE WHAT IT READS IS OF BULK AT MOST 1048576: true; the input reads as it did. -/
def tableWidthsUptoRow : OpenClaim := { program := "ytofhokggcpeldaa", sum := "cd651f2305ef54edc890b1001d98f3a0488bb6a485c351013bf76e415ec317e7", func := "stele/stelelaw51.TableWidths", spec := "tableWidths", inPlace := ["internal/abi.NoEscape", "internal/bytealg.MakeNoZero"], unfollowed := true, recurses := true, apart := false, narrowed := true }
def TableWidthsUptoSaid : Prop := tableWidthsUptoRow.holds Try.pinned (OpenSpec.upto tableWidthsSpec)

end Rows
end Go.Proofs.Ytofhokggcpeldaa
