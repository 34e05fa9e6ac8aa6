/-
  No cell of these rows narrows 'for every input' (looked for: loops, veiled, ifaces, maps, wideKeys, modest, calm, conditions, laid).
  DERIVED. THE GIVEN ROWS OF THIS SEAT. 8 by the template 'for every input the law returns true; each argument reads behind the call as it read before'; 0 by the template 'total and deterministic' (their statements: YtgoipkilpmjecaaTotals.lean).
  GIVEN WITH THE SEED: the statements are not yours to turn. If you find one false, say at which input.
  Laid BY PROGRAM, IN A SANDBOX (cutbox-rows.mjs): the forced cells as the released guide's own fill.sh prints them over the translation 87b99b9e5a1803e4… (all of the seat's roots in one cut). By AI agents, Wed Nov 11 2026. No macro, syntax, notation, axiom, sorry.
-/
import Derived.Test.YtgoipkilpmjecaaChecked
import GoSem.Claim
import GoSem.ClaimJoined
import GoSem.ClaimMapViews
import Derived.JoinedTies
import Derived.KernelRfl
namespace Go.Proofs.Ytgoipkilpmjecaa
/- THE CELL 'sum', in the pinned program and in every row, IS THE sha256 OF THE DUMP (.gsa) THAT YtgoipkilpmjecaaProg.lean LOADS. Nothing in Lean hashes anything: it is a label: what it is worth is what the hold of that sum in a sandbox is worth. -/
noncomputable def Try.pinned : Pinned := { name := "ytgoipkilpmjecaa", sum := "87b99b9e5a1803e4e5c81a7821e79e898b5a1db78e487e8f5392fe8809d48456", checked := Try.checked }
namespace Rows
def none {H : Type} : Left H := { results := [], args := [] }

/-- 'stelelaw34.SparseSplit': WHATEVER THE INPUT: true; the input reads as it did. -/
def sparseSplitSpec : ChangeSpec := { name := "sparseSplit", fn := fun _ => fun
  | [d] => { results := [.lit (.bool true)], args := [d] }
  | _ => none }
def sparseSplitRow : OpenClaim := { program := "ytgoipkilpmjecaa", sum := "87b99b9e5a1803e4e5c81a7821e79e898b5a1db78e487e8f5392fe8809d48456", func := "stele/stelelaw34.SparseSplit", spec := "sparseSplit", inPlace := ["internal/abi.NoEscape", "internal/bytealg.MakeNoZero"], unfollowed := true, recurses := true, apart := false }
def SparseSplitSaid : Prop := sparseSplitRow.holds Try.pinned (OpenSpec.ofChange sparseSplitSpec)

/-- ITS FALSE NEIGHBOUR: 'it returns false'. Refute it at one input. -/
def sparseSplitWrong : ChangeSpec := { name := "sparseSplit", fn := fun _ => fun
  | [d] => { results := [.lit (.bool false)], args := [d] }
  | _ => none }
def SparseSplitWrongFalsely : Prop := sparseSplitRow.holds Try.pinned (OpenSpec.ofChange sparseSplitWrong)

/-- 'stelelaw34.SparseConcatenation': WHATEVER THE INPUT: true; the input reads as it did. -/
def sparseConcatenationSpec : ChangeSpec := { name := "sparseConcatenation", fn := fun _ => fun
  | [d1, d2] => { results := [.lit (.bool true)], args := [d1, d2] }
  | _ => none }
def sparseConcatenationRow : OpenClaim := { program := "ytgoipkilpmjecaa", sum := "87b99b9e5a1803e4e5c81a7821e79e898b5a1db78e487e8f5392fe8809d48456", func := "stele/stelelaw34.SparseConcatenation", spec := "sparseConcatenation", inPlace := ["internal/abi.NoEscape", "internal/bytealg.MakeNoZero"], unfollowed := true, recurses := true, apart := false }
def SparseConcatenationSaid : Prop := sparseConcatenationRow.holds Try.pinned (OpenSpec.ofChange sparseConcatenationSpec)

/-- ITS FALSE NEIGHBOUR: 'it returns false'. Refute it at one input. -/
def sparseConcatenationWrong : ChangeSpec := { name := "sparseConcatenation", fn := fun _ => fun
  | [d1, d2] => { results := [.lit (.bool false)], args := [d1, d2] }
  | _ => none }
def SparseConcatenationWrongFalsely : Prop := sparseConcatenationRow.holds Try.pinned (OpenSpec.ofChange sparseConcatenationWrong)

/-- 'stelelaw34.SparseRoundTrip': WHATEVER THE INPUT: true; the input reads as it did. -/
def sparseRoundTripSpec : ChangeSpec := { name := "sparseRoundTrip", fn := fun _ => fun
  | [d] => { results := [.lit (.bool true)], args := [d] }
  | _ => none }
def sparseRoundTripRow : OpenClaim := { program := "ytgoipkilpmjecaa", sum := "87b99b9e5a1803e4e5c81a7821e79e898b5a1db78e487e8f5392fe8809d48456", func := "stele/stelelaw34.SparseRoundTrip", spec := "sparseRoundTrip", inPlace := ["internal/abi.NoEscape", "internal/bytealg.MakeNoZero"], unfollowed := true, recurses := true, apart := false }
def SparseRoundTripSaid : Prop := sparseRoundTripRow.holds Try.pinned (OpenSpec.ofChange sparseRoundTripSpec)

/-- ITS FALSE NEIGHBOUR: 'it returns false'. Refute it at one input. -/
def sparseRoundTripWrong : ChangeSpec := { name := "sparseRoundTrip", fn := fun _ => fun
  | [d] => { results := [.lit (.bool false)], args := [d] }
  | _ => none }
def SparseRoundTripWrongFalsely : Prop := sparseRoundTripRow.holds Try.pinned (OpenSpec.ofChange sparseRoundTripWrong)

/-- 'stelelaw34.SparseEquality': WHATEVER THE INPUT: true; the input reads as it did. -/
def sparseEqualitySpec : ChangeSpec := { name := "sparseEquality", fn := fun _ => fun
  | [d1, d2] => { results := [.lit (.bool true)], args := [d1, d2] }
  | _ => none }
def sparseEqualityRow : OpenClaim := { program := "ytgoipkilpmjecaa", sum := "87b99b9e5a1803e4e5c81a7821e79e898b5a1db78e487e8f5392fe8809d48456", func := "stele/stelelaw34.SparseEquality", spec := "sparseEquality", inPlace := ["internal/abi.NoEscape", "internal/bytealg.MakeNoZero"], unfollowed := true, recurses := true, apart := false }
def SparseEqualitySaid : Prop := sparseEqualityRow.holds Try.pinned (OpenSpec.ofChange sparseEqualitySpec)

/-- ITS FALSE NEIGHBOUR: 'it returns false'. Refute it at one input. -/
def sparseEqualityWrong : ChangeSpec := { name := "sparseEquality", fn := fun _ => fun
  | [d1, d2] => { results := [.lit (.bool false)], args := [d1, d2] }
  | _ => none }
def SparseEqualityWrongFalsely : Prop := sparseEqualityRow.holds Try.pinned (OpenSpec.ofChange sparseEqualityWrong)

/-- 'stelelaw34.SparseRead': WHATEVER THE INPUT: true; the input reads as it did. -/
def sparseReadSpec : ChangeSpec := { name := "sparseRead", fn := fun _ => fun
  | [d] => { results := [.lit (.bool true)], args := [d] }
  | _ => none }
def sparseReadRow : OpenClaim := { program := "ytgoipkilpmjecaa", sum := "87b99b9e5a1803e4e5c81a7821e79e898b5a1db78e487e8f5392fe8809d48456", func := "stele/stelelaw34.SparseRead", spec := "sparseRead", inPlace := ["internal/abi.NoEscape", "internal/bytealg.MakeNoZero"], unfollowed := true, recurses := true, apart := false }
def SparseReadSaid : Prop := sparseReadRow.holds Try.pinned (OpenSpec.ofChange sparseReadSpec)

/-- ITS FALSE NEIGHBOUR: 'it returns false'. Refute it at one input. -/
def sparseReadWrong : ChangeSpec := { name := "sparseRead", fn := fun _ => fun
  | [d] => { results := [.lit (.bool false)], args := [d] }
  | _ => none }
def SparseReadWrongFalsely : Prop := sparseReadRow.holds Try.pinned (OpenSpec.ofChange sparseReadWrong)

/-- 'stelelaw34.SparseSegments': WHATEVER THE INPUT: true; the input reads as it did. -/
def sparseSegmentsSpec : ChangeSpec := { name := "sparseSegments", fn := fun _ => fun
  | [d1, d2, d3] => { results := [.lit (.bool true)], args := [d1, d2, d3] }
  | _ => none }
def sparseSegmentsRow : OpenClaim := { program := "ytgoipkilpmjecaa", sum := "87b99b9e5a1803e4e5c81a7821e79e898b5a1db78e487e8f5392fe8809d48456", func := "stele/stelelaw34.SparseSegments", spec := "sparseSegments", inPlace := ["internal/abi.NoEscape", "internal/bytealg.MakeNoZero"], unfollowed := true, recurses := true, apart := false }
def SparseSegmentsSaid : Prop := sparseSegmentsRow.holds Try.pinned (OpenSpec.ofChange sparseSegmentsSpec)

/-- ITS FALSE NEIGHBOUR: 'it returns false'. Refute it at one input. -/
def sparseSegmentsWrong : ChangeSpec := { name := "sparseSegments", fn := fun _ => fun
  | [d1, d2, d3] => { results := [.lit (.bool false)], args := [d1, d2, d3] }
  | _ => none }
def SparseSegmentsWrongFalsely : Prop := sparseSegmentsRow.holds Try.pinned (OpenSpec.ofChange sparseSegmentsWrong)

/-- 'stelelaw34.SparseCanonical': WHATEVER THE INPUT: true; the input reads as it did. -/
def sparseCanonicalSpec : ChangeSpec := { name := "sparseCanonical", fn := fun _ => fun
  | [d] => { results := [.lit (.bool true)], args := [d] }
  | _ => none }
def sparseCanonicalRow : OpenClaim := { program := "ytgoipkilpmjecaa", sum := "87b99b9e5a1803e4e5c81a7821e79e898b5a1db78e487e8f5392fe8809d48456", func := "stele/stelelaw34.SparseCanonical", spec := "sparseCanonical", inPlace := ["internal/abi.NoEscape", "internal/bytealg.MakeNoZero", "internal/bytealg.IndexByteString", "internal/bytealg.IndexString"], unfollowed := true, recurses := true, named := ["internal/bytealg.MaxLen"], apart := false }
def SparseCanonicalSaid : Prop := sparseCanonicalRow.holds Try.pinned (OpenSpec.ofChange sparseCanonicalSpec)

/-- ITS FALSE NEIGHBOUR: 'it returns false'. Refute it at one input. -/
def sparseCanonicalWrong : ChangeSpec := { name := "sparseCanonical", fn := fun _ => fun
  | [d] => { results := [.lit (.bool false)], args := [d] }
  | _ => none }
def SparseCanonicalWrongFalsely : Prop := sparseCanonicalRow.holds Try.pinned (OpenSpec.ofChange sparseCanonicalWrong)

/-- 'stelelaw34.SparseThreshold': WHATEVER THE INPUT: true; the input reads as it did. -/
def sparseThresholdSpec : ChangeSpec := { name := "sparseThreshold", fn := fun _ => fun
  | [d1, d2, d3] => { results := [.lit (.bool true)], args := [d1, d2, d3] }
  | _ => none }
def sparseThresholdRow : OpenClaim := { program := "ytgoipkilpmjecaa", sum := "87b99b9e5a1803e4e5c81a7821e79e898b5a1db78e487e8f5392fe8809d48456", func := "stele/stelelaw34.SparseThreshold", spec := "sparseThreshold", inPlace := ["internal/bytealg.IndexByteString", "internal/bytealg.IndexString", "internal/abi.NoEscape", "internal/bytealg.MakeNoZero"], unfollowed := true, recurses := true, named := ["internal/bytealg.MaxLen"], apart := false }
def SparseThresholdSaid : Prop := sparseThresholdRow.holds Try.pinned (OpenSpec.ofChange sparseThresholdSpec)

/-- ITS FALSE NEIGHBOUR: 'it returns false'. Refute it at one input. -/
def sparseThresholdWrong : ChangeSpec := { name := "sparseThreshold", fn := fun _ => fun
  | [d1, d2, d3] => { results := [.lit (.bool false)], args := [d1, d2, d3] }
  | _ => none }
def SparseThresholdWrongFalsely : Prop := sparseThresholdRow.holds Try.pinned (OpenSpec.ofChange sparseThresholdWrong)

/- THE SECOND FORM. 'bulk': how many values and letters a reading holds, each counted each time it is reached (what is shared counts as often as it is met; a slice's spare places count too). A statement '..UptoSaid' is the law's where the arguments, and the package variables that the reading takes, are together of bulk at most 1048576: NARROWER than '..Said'. Prove '..Said' where nothing that the law and all that it calls make is longer than what came in: it says more and counts as full. Else prove '..UptoSaid'. A law counts once. -/
mutual
def uptoBulk {H : Type} : DataW H → Nat
  | .lit (.string bytes) => bytes.length + 1
  | .lit _ => 1
  | .nil => 1
  | .ptr d => uptoBulk d + 1
  | .slice elems spare => uptoBulkAll elems + uptoBulkAll spare + 1
  | .agg parts => uptoBulkAll parts + 1
  | .iface _ d => uptoBulk d + 1
  | .map entries => uptoBulkEntries entries + 1
  | .held _ => 1
def uptoBulkAll {H : Type} : List (DataW H) → Nat
  | [] => 0
  | d :: r => uptoBulk d + uptoBulkAll r
def uptoBulkEntries {H : Type} : List (Lit × DataW H) → Nat
  | [] => 0
  | x :: r => uptoBulkEntry x + uptoBulkEntries r
def uptoBulkEntry {H : Type} : Lit × DataW H → Nat
  | (.string bytes, d) => bytes.length + uptoBulk d + 1
  | (_, d) => uptoBulk d + 1
 end
def uptoSmall : (H : Type) → List (DataW H) → Bool := fun _ ds => decide (uptoBulkAll ds ≤ 1048576)
def OpenSpec.upto (s : _root_.Go.ChangeSpec) : _root_.Go.OpenSpec := { _root_.Go.OpenSpec.ofChange s with cond := some uptoSmall }

/-- 'stelelaw34.SparseSplit', WHERE WHAT IT READS IS OF BULK AT MOST 1048576: true; the input reads as it did. -/
def sparseSplitUptoRow : OpenClaim := { program := "ytgoipkilpmjecaa", sum := "87b99b9e5a1803e4e5c81a7821e79e898b5a1db78e487e8f5392fe8809d48456", func := "stele/stelelaw34.SparseSplit", spec := "sparseSplit", inPlace := ["internal/abi.NoEscape", "internal/bytealg.MakeNoZero"], unfollowed := true, recurses := true, apart := false, narrowed := true }
def SparseSplitUptoSaid : Prop := sparseSplitUptoRow.holds Try.pinned (OpenSpec.upto sparseSplitSpec)

/-- 'stelelaw34.SparseConcatenation', WHERE WHAT IT READS IS OF BULK AT MOST 1048576: true; the input reads as it did. -/
def sparseConcatenationUptoRow : OpenClaim := { program := "ytgoipkilpmjecaa", sum := "87b99b9e5a1803e4e5c81a7821e79e898b5a1db78e487e8f5392fe8809d48456", func := "stele/stelelaw34.SparseConcatenation", spec := "sparseConcatenation", inPlace := ["internal/abi.NoEscape", "internal/bytealg.MakeNoZero"], unfollowed := true, recurses := true, apart := false, narrowed := true }
def SparseConcatenationUptoSaid : Prop := sparseConcatenationUptoRow.holds Try.pinned (OpenSpec.upto sparseConcatenationSpec)

/-- 'stelelaw34.SparseRoundTrip', WHERE WHAT IT READS IS OF BULK AT MOST 1048576: true; the input reads as it did. -/
def sparseRoundTripUptoRow : OpenClaim := { program := "ytgoipkilpmjecaa", sum := "87b99b9e5a1803e4e5c81a7821e79e898b5a1db78e487e8f5392fe8809d48456", func := "stele/stelelaw34.SparseRoundTrip", spec := "sparseRoundTrip", inPlace := ["internal/abi.NoEscape", "internal/bytealg.MakeNoZero"], unfollowed := true, recurses := true, apart := false, narrowed := true }
def SparseRoundTripUptoSaid : Prop := sparseRoundTripUptoRow.holds Try.pinned (OpenSpec.upto sparseRoundTripSpec)

/-- 'stelelaw34.SparseEquality', WHERE WHAT IT READS IS OF BULK AT MOST 1048576: true; the input reads as it did. -/
def sparseEqualityUptoRow : OpenClaim := { program := "ytgoipkilpmjecaa", sum := "87b99b9e5a1803e4e5c81a7821e79e898b5a1db78e487e8f5392fe8809d48456", func := "stele/stelelaw34.SparseEquality", spec := "sparseEquality", inPlace := ["internal/abi.NoEscape", "internal/bytealg.MakeNoZero"], unfollowed := true, recurses := true, apart := false, narrowed := true }
def SparseEqualityUptoSaid : Prop := sparseEqualityUptoRow.holds Try.pinned (OpenSpec.upto sparseEqualitySpec)

/-- 'stelelaw34.SparseRead', WHERE WHAT IT READS IS OF BULK AT MOST 1048576: true; the input reads as it did. -/
def sparseReadUptoRow : OpenClaim := { program := "ytgoipkilpmjecaa", sum := "87b99b9e5a1803e4e5c81a7821e79e898b5a1db78e487e8f5392fe8809d48456", func := "stele/stelelaw34.SparseRead", spec := "sparseRead", inPlace := ["internal/abi.NoEscape", "internal/bytealg.MakeNoZero"], unfollowed := true, recurses := true, apart := false, narrowed := true }
def SparseReadUptoSaid : Prop := sparseReadUptoRow.holds Try.pinned (OpenSpec.upto sparseReadSpec)

/-- 'stelelaw34.SparseSegments', WHERE WHAT IT READS IS OF BULK AT MOST 1048576: true; the input reads as it did. -/
def sparseSegmentsUptoRow : OpenClaim := { program := "ytgoipkilpmjecaa", sum := "87b99b9e5a1803e4e5c81a7821e79e898b5a1db78e487e8f5392fe8809d48456", func := "stele/stelelaw34.SparseSegments", spec := "sparseSegments", inPlace := ["internal/abi.NoEscape", "internal/bytealg.MakeNoZero"], unfollowed := true, recurses := true, apart := false, narrowed := true }
def SparseSegmentsUptoSaid : Prop := sparseSegmentsUptoRow.holds Try.pinned (OpenSpec.upto sparseSegmentsSpec)

/-- 'stelelaw34.SparseCanonical', WHERE WHAT IT READS IS OF BULK AT MOST 1048576: true; the input reads as it did. -/
def sparseCanonicalUptoRow : OpenClaim := { program := "ytgoipkilpmjecaa", sum := "87b99b9e5a1803e4e5c81a7821e79e898b5a1db78e487e8f5392fe8809d48456", func := "stele/stelelaw34.SparseCanonical", spec := "sparseCanonical", inPlace := ["internal/abi.NoEscape", "internal/bytealg.MakeNoZero", "internal/bytealg.IndexByteString", "internal/bytealg.IndexString"], unfollowed := true, recurses := true, named := ["internal/bytealg.MaxLen"], apart := false, narrowed := true }
def SparseCanonicalUptoSaid : Prop := sparseCanonicalUptoRow.holds Try.pinned (OpenSpec.upto sparseCanonicalSpec)

/-- 'stelelaw34.SparseThreshold', WHERE WHAT IT READS IS OF BULK AT MOST 1048576: true; the input reads as it did. -/
def sparseThresholdUptoRow : OpenClaim := { program := "ytgoipkilpmjecaa", sum := "87b99b9e5a1803e4e5c81a7821e79e898b5a1db78e487e8f5392fe8809d48456", func := "stele/stelelaw34.SparseThreshold", spec := "sparseThreshold", inPlace := ["internal/bytealg.IndexByteString", "internal/bytealg.IndexString", "internal/abi.NoEscape", "internal/bytealg.MakeNoZero"], unfollowed := true, recurses := true, named := ["internal/bytealg.MaxLen"], apart := false, narrowed := true }
def SparseThresholdUptoSaid : Prop := sparseThresholdUptoRow.holds Try.pinned (OpenSpec.upto sparseThresholdSpec)

end Rows
end Go.Proofs.Ytgoipkilpmjecaa
