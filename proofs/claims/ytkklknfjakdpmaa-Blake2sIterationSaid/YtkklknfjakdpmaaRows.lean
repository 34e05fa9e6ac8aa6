/-
  No cell of these rows narrows 'for every input' (looked for: loops, veiled, ifaces, maps, wideKeys, modest, calm, conditions, laid).
  DERIVED. THE GIVEN ROWS OF THIS SEAT. 8 by the template 'for every input the law returns true; each argument reads behind the call as it read before'; 0 by the template 'total and deterministic' (their statements: YtkklknfjakdpmaaTotals.lean).
  GIVEN WITH THE SEED: the statements are not yours to turn. If you find one false, say at which input.
  Laid BY PROGRAM, IN A SANDBOX (cutbox-rows.mjs): the forced cells as the released guide's own fill.sh prints them over the translation b590de821cb6451d… (all of the seat's roots in one cut). By AI agents, Wed Nov 11 2026. No macro, syntax, notation, axiom, sorry.
-/
import Derived.Test.YtkklknfjakdpmaaChecked
import GoSem.Claim
import GoSem.ClaimJoined
import GoSem.ClaimMapViews
import Derived.JoinedTies
import Derived.KernelRfl
namespace Go.Proofs.Ytkklknfjakdpmaa
/- THE CELL 'sum', in the pinned program and in every row, IS THE sha256 OF THE DUMP (.gsa) THAT YtkklknfjakdpmaaProg.lean LOADS. Nothing in Lean hashes anything: it is a label: what it is worth is what the hold of that sum in a sandbox is worth. -/
noncomputable def Try.pinned : Pinned := { name := "ytkklknfjakdpmaa", sum := "b590de821cb6451d98238d44d05092db02b7350f9f4133624a1b252cc15df54b", checked := Try.checked }
namespace Rows
def none {H : Type} : Left H := { results := [], args := [] }

/-- 'stelelaw04.Blake2sDigest': WHATEVER THE INPUT: true; the input reads as it did. -/
def blake2sDigestSpec : ChangeSpec := { name := "blake2sDigest", fn := fun _ => fun
  | [d] => { results := [.lit (.bool true)], args := [d] }
  | _ => none }
def blake2sDigestRow : OpenClaim := { program := "ytkklknfjakdpmaa", sum := "b590de821cb6451d98238d44d05092db02b7350f9f4133624a1b252cc15df54b", func := "stele/stelelaw04.Blake2sDigest", spec := "blake2sDigest", inPlace := ["internal/abi.NoEscape", "internal/bytealg.MakeNoZero"], apart := false }
def Blake2sDigestSaid : Prop := blake2sDigestRow.holds Try.pinned (OpenSpec.ofChange blake2sDigestSpec)

/-- ITS FALSE NEIGHBOUR: 'it returns false'. Refute it at one input. -/
def blake2sDigestWrong : ChangeSpec := { name := "blake2sDigest", fn := fun _ => fun
  | [d] => { results := [.lit (.bool false)], args := [d] }
  | _ => none }
def Blake2sDigestWrongFalsely : Prop := blake2sDigestRow.holds Try.pinned (OpenSpec.ofChange blake2sDigestWrong)

/-- 'stelelaw04.Blake2sConcatenation': WHATEVER THE INPUT: true; the input reads as it did. -/
def blake2sConcatenationSpec : ChangeSpec := { name := "blake2sConcatenation", fn := fun _ => fun
  | [d1, d2] => { results := [.lit (.bool true)], args := [d1, d2] }
  | _ => none }
def blake2sConcatenationRow : OpenClaim := { program := "ytkklknfjakdpmaa", sum := "b590de821cb6451d98238d44d05092db02b7350f9f4133624a1b252cc15df54b", func := "stele/stelelaw04.Blake2sConcatenation", spec := "blake2sConcatenation", inPlace := ["internal/abi.NoEscape", "internal/bytealg.MakeNoZero"], apart := false }
def Blake2sConcatenationSaid : Prop := blake2sConcatenationRow.holds Try.pinned (OpenSpec.ofChange blake2sConcatenationSpec)

/-- ITS FALSE NEIGHBOUR: 'it returns false'. Refute it at one input. -/
def blake2sConcatenationWrong : ChangeSpec := { name := "blake2sConcatenation", fn := fun _ => fun
  | [d1, d2] => { results := [.lit (.bool false)], args := [d1, d2] }
  | _ => none }
def Blake2sConcatenationWrongFalsely : Prop := blake2sConcatenationRow.holds Try.pinned (OpenSpec.ofChange blake2sConcatenationWrong)

/-- 'stelelaw04.Blake2sCompress': WHATEVER THE INPUT: true; the input reads as it did. -/
def blake2sCompressSpec : ChangeSpec := { name := "blake2sCompress", fn := fun _ => fun
  | [d1, d2, d3, d4] => { results := [.lit (.bool true)], args := [d1, d2, d3, d4] }
  | _ => none }
def blake2sCompressRow : OpenClaim := { program := "ytkklknfjakdpmaa", sum := "b590de821cb6451d98238d44d05092db02b7350f9f4133624a1b252cc15df54b", func := "stele/stelelaw04.Blake2sCompress", spec := "blake2sCompress", inPlace := ["internal/abi.NoEscape", "internal/bytealg.MakeNoZero"], apart := false }
def Blake2sCompressSaid : Prop := blake2sCompressRow.holds Try.pinned (OpenSpec.ofChange blake2sCompressSpec)

/-- ITS FALSE NEIGHBOUR: 'it returns false'. Refute it at one input. -/
def blake2sCompressWrong : ChangeSpec := { name := "blake2sCompress", fn := fun _ => fun
  | [d1, d2, d3, d4] => { results := [.lit (.bool false)], args := [d1, d2, d3, d4] }
  | _ => none }
def Blake2sCompressWrongFalsely : Prop := blake2sCompressRow.holds Try.pinned (OpenSpec.ofChange blake2sCompressWrong)

/-- 'stelelaw04.Blake2sIteration': WHATEVER THE INPUT: true; the input reads as it did. -/
def blake2sIterationSpec : ChangeSpec := { name := "blake2sIteration", fn := fun _ => fun
  | [d] => { results := [.lit (.bool true)], args := [d] }
  | _ => none }
def blake2sIterationRow : OpenClaim := { program := "ytkklknfjakdpmaa", sum := "b590de821cb6451d98238d44d05092db02b7350f9f4133624a1b252cc15df54b", func := "stele/stelelaw04.Blake2sIteration", spec := "blake2sIteration", inPlace := ["internal/abi.NoEscape", "internal/bytealg.MakeNoZero"], apart := false }
def Blake2sIterationSaid : Prop := blake2sIterationRow.holds Try.pinned (OpenSpec.ofChange blake2sIterationSpec)

/-- ITS FALSE NEIGHBOUR: 'it returns false'. Refute it at one input. -/
def blake2sIterationWrong : ChangeSpec := { name := "blake2sIteration", fn := fun _ => fun
  | [d] => { results := [.lit (.bool false)], args := [d] }
  | _ => none }
def Blake2sIterationWrongFalsely : Prop := blake2sIterationRow.holds Try.pinned (OpenSpec.ofChange blake2sIterationWrong)

/-- 'stelelaw04.Blake2sHex': WHATEVER THE INPUT: true; the input reads as it did. -/
def blake2sHexSpec : ChangeSpec := { name := "blake2sHex", fn := fun _ => fun
  | [d] => { results := [.lit (.bool true)], args := [d] }
  | _ => none }
def blake2sHexRow : OpenClaim := { program := "ytkklknfjakdpmaa", sum := "b590de821cb6451d98238d44d05092db02b7350f9f4133624a1b252cc15df54b", func := "stele/stelelaw04.Blake2sHex", spec := "blake2sHex", inPlace := ["internal/abi.NoEscape", "internal/bytealg.MakeNoZero"], apart := false }
def Blake2sHexSaid : Prop := blake2sHexRow.holds Try.pinned (OpenSpec.ofChange blake2sHexSpec)

/-- ITS FALSE NEIGHBOUR: 'it returns false'. Refute it at one input. -/
def blake2sHexWrong : ChangeSpec := { name := "blake2sHex", fn := fun _ => fun
  | [d] => { results := [.lit (.bool false)], args := [d] }
  | _ => none }
def Blake2sHexWrongFalsely : Prop := blake2sHexRow.holds Try.pinned (OpenSpec.ofChange blake2sHexWrong)

/-- 'stelelaw04.Blake2sHexConcatenation': WHATEVER THE INPUT: true; the input reads as it did. -/
def blake2sHexConcatenationSpec : ChangeSpec := { name := "blake2sHexConcatenation", fn := fun _ => fun
  | [d1, d2] => { results := [.lit (.bool true)], args := [d1, d2] }
  | _ => none }
def blake2sHexConcatenationRow : OpenClaim := { program := "ytkklknfjakdpmaa", sum := "b590de821cb6451d98238d44d05092db02b7350f9f4133624a1b252cc15df54b", func := "stele/stelelaw04.Blake2sHexConcatenation", spec := "blake2sHexConcatenation", inPlace := ["internal/abi.NoEscape", "internal/bytealg.MakeNoZero"], apart := false }
def Blake2sHexConcatenationSaid : Prop := blake2sHexConcatenationRow.holds Try.pinned (OpenSpec.ofChange blake2sHexConcatenationSpec)

/-- ITS FALSE NEIGHBOUR: 'it returns false'. Refute it at one input. -/
def blake2sHexConcatenationWrong : ChangeSpec := { name := "blake2sHexConcatenation", fn := fun _ => fun
  | [d1, d2] => { results := [.lit (.bool false)], args := [d1, d2] }
  | _ => none }
def Blake2sHexConcatenationWrongFalsely : Prop := blake2sHexConcatenationRow.holds Try.pinned (OpenSpec.ofChange blake2sHexConcatenationWrong)

/-- 'stelelaw04.Blake2sMerkle': WHATEVER THE INPUT: true; the input reads as it did. -/
def blake2sMerkleSpec : ChangeSpec := { name := "blake2sMerkle", fn := fun _ => fun
  | [d] => { results := [.lit (.bool true)], args := [d] }
  | _ => none }
def blake2sMerkleRow : OpenClaim := { program := "ytkklknfjakdpmaa", sum := "b590de821cb6451d98238d44d05092db02b7350f9f4133624a1b252cc15df54b", func := "stele/stelelaw04.Blake2sMerkle", spec := "blake2sMerkle", inPlace := ["internal/abi.NoEscape", "internal/bytealg.MakeNoZero"], recurses := true, apart := false }
def Blake2sMerkleSaid : Prop := blake2sMerkleRow.holds Try.pinned (OpenSpec.ofChange blake2sMerkleSpec)

/-- ITS FALSE NEIGHBOUR: 'it returns false'. Refute it at one input. -/
def blake2sMerkleWrong : ChangeSpec := { name := "blake2sMerkle", fn := fun _ => fun
  | [d] => { results := [.lit (.bool false)], args := [d] }
  | _ => none }
def Blake2sMerkleWrongFalsely : Prop := blake2sMerkleRow.holds Try.pinned (OpenSpec.ofChange blake2sMerkleWrong)

/-- 'stelelaw04.Blake2sTreeGrowth': WHATEVER THE INPUT: true; the input reads as it did. -/
def blake2sTreeGrowthSpec : ChangeSpec := { name := "blake2sTreeGrowth", fn := fun _ => fun
  | [d1, d2] => { results := [.lit (.bool true)], args := [d1, d2] }
  | _ => none }
def blake2sTreeGrowthRow : OpenClaim := { program := "ytkklknfjakdpmaa", sum := "b590de821cb6451d98238d44d05092db02b7350f9f4133624a1b252cc15df54b", func := "stele/stelelaw04.Blake2sTreeGrowth", spec := "blake2sTreeGrowth", inPlace := ["internal/abi.NoEscape", "internal/bytealg.MakeNoZero"], recurses := true, apart := false }
def Blake2sTreeGrowthSaid : Prop := blake2sTreeGrowthRow.holds Try.pinned (OpenSpec.ofChange blake2sTreeGrowthSpec)

/-- ITS FALSE NEIGHBOUR: 'it returns false'. Refute it at one input. -/
def blake2sTreeGrowthWrong : ChangeSpec := { name := "blake2sTreeGrowth", fn := fun _ => fun
  | [d1, d2] => { results := [.lit (.bool false)], args := [d1, d2] }
  | _ => none }
def Blake2sTreeGrowthWrongFalsely : Prop := blake2sTreeGrowthRow.holds Try.pinned (OpenSpec.ofChange blake2sTreeGrowthWrong)

/- THE SECOND FORM. 'bulk': how many values and letters a reading holds, each counted each time it is reached (what is shared counts as often as it is met; a slice's spare places count too). A statement '..UptoSaid' is the law's where the arguments, and the package variables that the reading takes, are together of bulk at most 1048576: NARROWER than '..Said'. Prove '..Said' where nothing that the law and all that it calls make is longer than what came in: it says more and counts as full. Else prove '..UptoSaid'. A law counts once. -/
mutual
def uptoBulk {H : Type} : DataW H → Nat
  | .lit (.string bytes) => bytes.length + 1
  | .lit _ => 1
  | .nil => 1
  | .ptr d => uptoBulk d + 1
  | .slice elems spare => uptoBulkAll elems + uptoBulkAll spare + 1
  | .agg parts => uptoBulkAll parts + 1
  | .iface _ d => uptoBulk d + 1
  | .map entries => uptoBulkEntries entries + 1
  | .held _ => 1
def uptoBulkAll {H : Type} : List (DataW H) → Nat
  | [] => 0
  | d :: r => uptoBulk d + uptoBulkAll r
def uptoBulkEntries {H : Type} : List (Lit × DataW H) → Nat
  | [] => 0
  | x :: r => uptoBulkEntry x + uptoBulkEntries r
def uptoBulkEntry {H : Type} : Lit × DataW H → Nat
  | (.string bytes, d) => bytes.length + uptoBulk d + 1
  | (_, d) => uptoBulk d + 1
 end
def uptoSmall : (H : Type) → List (DataW H) → Bool := fun _ ds => decide (uptoBulkAll ds ≤ 1048576)
def OpenSpec.upto (s : _root_.Go.ChangeSpec) : _root_.Go.OpenSpec := { _root_.Go.OpenSpec.ofChange s with cond := some uptoSmall }

/-- 'stelelaw04.Blake2sDigest', WHERE WHAT IT READS IS OF BULK AT MOST 1048576: true; the input reads as it did. -/
def blake2sDigestUptoRow : OpenClaim := { program := "ytkklknfjakdpmaa", sum := "b590de821cb6451d98238d44d05092db02b7350f9f4133624a1b252cc15df54b", func := "stele/stelelaw04.Blake2sDigest", spec := "blake2sDigest", inPlace := ["internal/abi.NoEscape", "internal/bytealg.MakeNoZero"], apart := false, narrowed := true }
def Blake2sDigestUptoSaid : Prop := blake2sDigestUptoRow.holds Try.pinned (OpenSpec.upto blake2sDigestSpec)

/-- 'stelelaw04.Blake2sConcatenation', WHERE WHAT IT READS IS OF BULK AT MOST 1048576: true; the input reads as it did. -/
def blake2sConcatenationUptoRow : OpenClaim := { program := "ytkklknfjakdpmaa", sum := "b590de821cb6451d98238d44d05092db02b7350f9f4133624a1b252cc15df54b", func := "stele/stelelaw04.Blake2sConcatenation", spec := "blake2sConcatenation", inPlace := ["internal/abi.NoEscape", "internal/bytealg.MakeNoZero"], apart := false, narrowed := true }
def Blake2sConcatenationUptoSaid : Prop := blake2sConcatenationUptoRow.holds Try.pinned (OpenSpec.upto blake2sConcatenationSpec)

/-- 'stelelaw04.Blake2sCompress', WHERE WHAT IT READS IS OF BULK AT MOST 1048576: true; the input reads as it did. -/
def blake2sCompressUptoRow : OpenClaim := { program := "ytkklknfjakdpmaa", sum := "b590de821cb6451d98238d44d05092db02b7350f9f4133624a1b252cc15df54b", func := "stele/stelelaw04.Blake2sCompress", spec := "blake2sCompress", inPlace := ["internal/abi.NoEscape", "internal/bytealg.MakeNoZero"], apart := false, narrowed := true }
def Blake2sCompressUptoSaid : Prop := blake2sCompressUptoRow.holds Try.pinned (OpenSpec.upto blake2sCompressSpec)

/-- 'stelelaw04.Blake2sIteration', WHERE WHAT IT READS IS OF BULK AT MOST 1048576: true; the input reads as it did. -/
def blake2sIterationUptoRow : OpenClaim := { program := "ytkklknfjakdpmaa", sum := "b590de821cb6451d98238d44d05092db02b7350f9f4133624a1b252cc15df54b", func := "stele/stelelaw04.Blake2sIteration", spec := "blake2sIteration", inPlace := ["internal/abi.NoEscape", "internal/bytealg.MakeNoZero"], apart := false, narrowed := true }
def Blake2sIterationUptoSaid : Prop := blake2sIterationUptoRow.holds Try.pinned (OpenSpec.upto blake2sIterationSpec)

/-- 'stelelaw04.Blake2sHex', WHERE WHAT IT READS IS OF BULK AT MOST 1048576: true; the input reads as it did. -/
def blake2sHexUptoRow : OpenClaim := { program := "ytkklknfjakdpmaa", sum := "b590de821cb6451d98238d44d05092db02b7350f9f4133624a1b252cc15df54b", func := "stele/stelelaw04.Blake2sHex", spec := "blake2sHex", inPlace := ["internal/abi.NoEscape", "internal/bytealg.MakeNoZero"], apart := false, narrowed := true }
def Blake2sHexUptoSaid : Prop := blake2sHexUptoRow.holds Try.pinned (OpenSpec.upto blake2sHexSpec)

/-- 'stelelaw04.Blake2sHexConcatenation', WHERE WHAT IT READS IS OF BULK AT MOST 1048576: true; the input reads as it did. -/
def blake2sHexConcatenationUptoRow : OpenClaim := { program := "ytkklknfjakdpmaa", sum := "b590de821cb6451d98238d44d05092db02b7350f9f4133624a1b252cc15df54b", func := "stele/stelelaw04.Blake2sHexConcatenation", spec := "blake2sHexConcatenation", inPlace := ["internal/abi.NoEscape", "internal/bytealg.MakeNoZero"], apart := false, narrowed := true }
def Blake2sHexConcatenationUptoSaid : Prop := blake2sHexConcatenationUptoRow.holds Try.pinned (OpenSpec.upto blake2sHexConcatenationSpec)

/-- 'stelelaw04.Blake2sMerkle', WHERE WHAT IT READS IS OF BULK AT MOST 1048576: true; the input reads as it did. -/
def blake2sMerkleUptoRow : OpenClaim := { program := "ytkklknfjakdpmaa", sum := "b590de821cb6451d98238d44d05092db02b7350f9f4133624a1b252cc15df54b", func := "stele/stelelaw04.Blake2sMerkle", spec := "blake2sMerkle", inPlace := ["internal/abi.NoEscape", "internal/bytealg.MakeNoZero"], recurses := true, apart := false, narrowed := true }
def Blake2sMerkleUptoSaid : Prop := blake2sMerkleUptoRow.holds Try.pinned (OpenSpec.upto blake2sMerkleSpec)

/-- 'stelelaw04.Blake2sTreeGrowth', WHERE WHAT IT READS IS OF BULK AT MOST 1048576: true; the input reads as it did. -/
def blake2sTreeGrowthUptoRow : OpenClaim := { program := "ytkklknfjakdpmaa", sum := "b590de821cb6451d98238d44d05092db02b7350f9f4133624a1b252cc15df54b", func := "stele/stelelaw04.Blake2sTreeGrowth", spec := "blake2sTreeGrowth", inPlace := ["internal/abi.NoEscape", "internal/bytealg.MakeNoZero"], recurses := true, apart := false, narrowed := true }
def Blake2sTreeGrowthUptoSaid : Prop := blake2sTreeGrowthUptoRow.holds Try.pinned (OpenSpec.upto blake2sTreeGrowthSpec)

end Rows
end Go.Proofs.Ytkklknfjakdpmaa
