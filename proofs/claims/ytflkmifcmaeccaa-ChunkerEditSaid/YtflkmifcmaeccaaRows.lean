/-
  No cell of these rows narrows 'for every input' (looked for: loops, veiled, ifaces, maps, wideKeys, modest, calm, conditions, laid).
  DERIVED. THE GIVEN ROWS OF THIS SEAT. 6 by the template 'for every input the law returns true; each argument reads behind the call as it read before'; 0 by the template 'total and deterministic' (their statements: YtflkmifcmaeccaaTotals.lean).
  GIVEN WITH THE SEED: the statements are not yours to turn. If you find one false, say at which input.
  Laid BY PROGRAM, IN A SANDBOX (cutbox-rows.mjs): the forced cells as the released guide's own fill.sh prints them over the translation bd784fbad104368d… (all of the seat's roots in one cut). By AI agents, Wed Nov 11 2026. No macro, syntax, notation, axiom, sorry.
-/
import Derived.Test.YtflkmifcmaeccaaChecked
import GoSem.Claim
import GoSem.ClaimJoined
import GoSem.ClaimMapViews
import Derived.JoinedTies
import Derived.KernelRfl
namespace Go.Proofs.Ytflkmifcmaeccaa
/- THE CELL 'sum', in the pinned program and in every row, IS THE sha256 OF THE DUMP (.gsa) THAT YtflkmifcmaeccaaProg.lean LOADS. Nothing in Lean hashes anything: it is a label: what it is worth is what the hold of that sum in a sandbox is worth. -/
noncomputable def Try.pinned : Pinned := { name := "ytflkmifcmaeccaa", sum := "bd784fbad104368d95365bdb94b832a07be8a075952acd54508655d78ade8c4d", checked := Try.checked }
namespace Rows
def none {H : Type} : Left H := { results := [], args := [] }

/-- 'stelelaw33.ChunkerSplits': WHATEVER THE INPUT: true; the input reads as it did. -/
def chunkerSplitsSpec : ChangeSpec := { name := "chunkerSplits", fn := fun _ => fun
  | [d] => { results := [.lit (.bool true)], args := [d] }
  | _ => none }
def chunkerSplitsRow : OpenClaim := { program := "ytflkmifcmaeccaa", sum := "bd784fbad104368d95365bdb94b832a07be8a075952acd54508655d78ade8c4d", func := "stele/stelelaw33.ChunkerSplits", spec := "chunkerSplits", inPlace := ["internal/abi.NoEscape", "internal/bytealg.MakeNoZero"], unfollowed := true, recurses := true, apart := false }
def ChunkerSplitsSaid : Prop := chunkerSplitsRow.holds Try.pinned (OpenSpec.ofChange chunkerSplitsSpec)

/-- ITS FALSE NEIGHBOUR: 'it returns false'. Refute it at one input. -/
def chunkerSplitsWrong : ChangeSpec := { name := "chunkerSplits", fn := fun _ => fun
  | [d] => { results := [.lit (.bool false)], args := [d] }
  | _ => none }
def ChunkerSplitsWrongFalsely : Prop := chunkerSplitsRow.holds Try.pinned (OpenSpec.ofChange chunkerSplitsWrong)

/-- 'stelelaw33.ChunkerEdit': WHATEVER THE INPUT: true; the input reads as it did. -/
def chunkerEditSpec : ChangeSpec := { name := "chunkerEdit", fn := fun _ => fun
  | [d1, d2, d3] => { results := [.lit (.bool true)], args := [d1, d2, d3] }
  | _ => none }
def chunkerEditRow : OpenClaim := { program := "ytflkmifcmaeccaa", sum := "bd784fbad104368d95365bdb94b832a07be8a075952acd54508655d78ade8c4d", func := "stele/stelelaw33.ChunkerEdit", spec := "chunkerEdit", inPlace := ["internal/abi.NoEscape", "internal/bytealg.MakeNoZero"], unfollowed := true, recurses := true, apart := false }
def ChunkerEditSaid : Prop := chunkerEditRow.holds Try.pinned (OpenSpec.ofChange chunkerEditSpec)

/-- ITS FALSE NEIGHBOUR: 'it returns false'. Refute it at one input. -/
def chunkerEditWrong : ChangeSpec := { name := "chunkerEdit", fn := fun _ => fun
  | [d1, d2, d3] => { results := [.lit (.bool false)], args := [d1, d2, d3] }
  | _ => none }
def ChunkerEditWrongFalsely : Prop := chunkerEditRow.holds Try.pinned (OpenSpec.ofChange chunkerEditWrong)

/-- 'stelelaw33.ChunkerJoins': WHATEVER THE INPUT: true; the input reads as it did. -/
def chunkerJoinsSpec : ChangeSpec := { name := "chunkerJoins", fn := fun _ => fun
  | [d] => { results := [.lit (.bool true)], args := [d] }
  | _ => none }
def chunkerJoinsRow : OpenClaim := { program := "ytflkmifcmaeccaa", sum := "bd784fbad104368d95365bdb94b832a07be8a075952acd54508655d78ade8c4d", func := "stele/stelelaw33.ChunkerJoins", spec := "chunkerJoins", inPlace := ["internal/abi.NoEscape", "internal/bytealg.MakeNoZero"], unfollowed := true, recurses := true, apart := false }
def ChunkerJoinsSaid : Prop := chunkerJoinsRow.holds Try.pinned (OpenSpec.ofChange chunkerJoinsSpec)

/-- ITS FALSE NEIGHBOUR: 'it returns false'. Refute it at one input. -/
def chunkerJoinsWrong : ChangeSpec := { name := "chunkerJoins", fn := fun _ => fun
  | [d] => { results := [.lit (.bool false)], args := [d] }
  | _ => none }
def ChunkerJoinsWrongFalsely : Prop := chunkerJoinsRow.holds Try.pinned (OpenSpec.ofChange chunkerJoinsWrong)

/-- 'stelelaw33.ChunkerLocality': WHATEVER THE INPUT: true; the input reads as it did. -/
def chunkerLocalitySpec : ChangeSpec := { name := "chunkerLocality", fn := fun _ => fun
  | [d1, d2, d3] => { results := [.lit (.bool true)], args := [d1, d2, d3] }
  | _ => none }
def chunkerLocalityRow : OpenClaim := { program := "ytflkmifcmaeccaa", sum := "bd784fbad104368d95365bdb94b832a07be8a075952acd54508655d78ade8c4d", func := "stele/stelelaw33.ChunkerLocality", spec := "chunkerLocality", inPlace := ["internal/abi.NoEscape", "internal/bytealg.MakeNoZero"], unfollowed := true, recurses := true, apart := false }
def ChunkerLocalitySaid : Prop := chunkerLocalityRow.holds Try.pinned (OpenSpec.ofChange chunkerLocalitySpec)

/-- ITS FALSE NEIGHBOUR: 'it returns false'. Refute it at one input. -/
def chunkerLocalityWrong : ChangeSpec := { name := "chunkerLocality", fn := fun _ => fun
  | [d1, d2, d3] => { results := [.lit (.bool false)], args := [d1, d2, d3] }
  | _ => none }
def ChunkerLocalityWrongFalsely : Prop := chunkerLocalityRow.holds Try.pinned (OpenSpec.ofChange chunkerLocalityWrong)

/-- 'stelelaw33.ChunkerAppend': WHATEVER THE INPUT: true; the input reads as it did. -/
def chunkerAppendSpec : ChangeSpec := { name := "chunkerAppend", fn := fun _ => fun
  | [d1, d2] => { results := [.lit (.bool true)], args := [d1, d2] }
  | _ => none }
def chunkerAppendRow : OpenClaim := { program := "ytflkmifcmaeccaa", sum := "bd784fbad104368d95365bdb94b832a07be8a075952acd54508655d78ade8c4d", func := "stele/stelelaw33.ChunkerAppend", spec := "chunkerAppend", inPlace := ["internal/abi.NoEscape", "internal/bytealg.MakeNoZero"], unfollowed := true, recurses := true, apart := false }
def ChunkerAppendSaid : Prop := chunkerAppendRow.holds Try.pinned (OpenSpec.ofChange chunkerAppendSpec)

/-- ITS FALSE NEIGHBOUR: 'it returns false'. Refute it at one input. -/
def chunkerAppendWrong : ChangeSpec := { name := "chunkerAppend", fn := fun _ => fun
  | [d1, d2] => { results := [.lit (.bool false)], args := [d1, d2] }
  | _ => none }
def ChunkerAppendWrongFalsely : Prop := chunkerAppendRow.holds Try.pinned (OpenSpec.ofChange chunkerAppendWrong)

/-- 'stelelaw33.ChunkerRepetition': WHATEVER THE INPUT: true; the input reads as it did. -/
def chunkerRepetitionSpec : ChangeSpec := { name := "chunkerRepetition", fn := fun _ => fun
  | [d1, d2] => { results := [.lit (.bool true)], args := [d1, d2] }
  | _ => none }
def chunkerRepetitionRow : OpenClaim := { program := "ytflkmifcmaeccaa", sum := "bd784fbad104368d95365bdb94b832a07be8a075952acd54508655d78ade8c4d", func := "stele/stelelaw33.ChunkerRepetition", spec := "chunkerRepetition", inPlace := ["internal/abi.NoEscape", "internal/bytealg.MakeNoZero"], unfollowed := true, recurses := true, apart := false }
def ChunkerRepetitionSaid : Prop := chunkerRepetitionRow.holds Try.pinned (OpenSpec.ofChange chunkerRepetitionSpec)

/-- ITS FALSE NEIGHBOUR: 'it returns false'. Refute it at one input. -/
def chunkerRepetitionWrong : ChangeSpec := { name := "chunkerRepetition", fn := fun _ => fun
  | [d1, d2] => { results := [.lit (.bool false)], args := [d1, d2] }
  | _ => none }
def ChunkerRepetitionWrongFalsely : Prop := chunkerRepetitionRow.holds Try.pinned (OpenSpec.ofChange chunkerRepetitionWrong)

/- THE SECOND FORM. 'bulk': how many values and letters a reading holds, each counted each time it is reached (what is shared counts as often as it is met; a slice's spare places count too). A statement '..UptoSaid' is the law's where the arguments, and the package variables that the reading takes, are together of bulk at most 1048576: NARROWER than '..Said'. Prove '..Said' where nothing that the law and all that it calls make is longer than what came in: it says more and counts as full. Else prove '..UptoSaid'. A law counts once. -/
mutual
def uptoBulk {H : Type} : DataW H → Nat
  | .lit (.string bytes) => bytes.length + 1
  | .lit _ => 1
  | .nil => 1
  | .ptr d => uptoBulk d + 1
  | .slice elems spare => uptoBulkAll elems + uptoBulkAll spare + 1
  | .agg parts => uptoBulkAll parts + 1
  | .iface _ d => uptoBulk d + 1
  | .map entries => uptoBulkEntries entries + 1
  | .held _ => 1
def uptoBulkAll {H : Type} : List (DataW H) → Nat
  | [] => 0
  | d :: r => uptoBulk d + uptoBulkAll r
def uptoBulkEntries {H : Type} : List (Lit × DataW H) → Nat
  | [] => 0
  | x :: r => uptoBulkEntry x + uptoBulkEntries r
def uptoBulkEntry {H : Type} : Lit × DataW H → Nat
  | (.string bytes, d) => bytes.length + uptoBulk d + 1
  | (_, d) => uptoBulk d + 1
 end
def uptoSmall : (H : Type) → List (DataW H) → Bool := fun _ ds => decide (uptoBulkAll ds ≤ 1048576)
def OpenSpec.upto (s : _root_.Go.ChangeSpec) : _root_.Go.OpenSpec := { _root_.Go.OpenSpec.ofChange s with cond := some uptoSmall }

/-- 'stelelaw33.ChunkerSplits', WHERE WHAT IT READS IS OF BULK AT MOST 1048576: true; the input reads as it did. -/
def chunkerSplitsUptoRow : OpenClaim := { program := "ytflkmifcmaeccaa", sum := "bd784fbad104368d95365bdb94b832a07be8a075952acd54508655d78ade8c4d", func := "stele/stelelaw33.ChunkerSplits", spec := "chunkerSplits", inPlace := ["internal/abi.NoEscape", "internal/bytealg.MakeNoZero"], unfollowed := true, recurses := true, apart := false, narrowed := true }
def ChunkerSplitsUptoSaid : Prop := chunkerSplitsUptoRow.holds Try.pinned (OpenSpec.upto chunkerSplitsSpec)

/-- 'stelelaw33.ChunkerEdit', WHERE WHAT IT READS IS OF BULK AT MOST 1048576: true; the input reads as it did. -/
def chunkerEditUptoRow : OpenClaim := { program := "ytflkmifcmaeccaa", sum := "bd784fbad104368d95365bdb94b832a07be8a075952acd54508655d78ade8c4d", func := "stele/stelelaw33.ChunkerEdit", spec := "chunkerEdit", inPlace := ["internal/abi.NoEscape", "internal/bytealg.MakeNoZero"], unfollowed := true, recurses := true, apart := false, narrowed := true }
def ChunkerEditUptoSaid : Prop := chunkerEditUptoRow.holds Try.pinned (OpenSpec.upto chunkerEditSpec)

/-- 'stelelaw33.ChunkerJoins', WHERE WHAT IT READS IS OF BULK AT MOST 1048576: true; the input reads as it did. -/
def chunkerJoinsUptoRow : OpenClaim := { program := "ytflkmifcmaeccaa", sum := "bd784fbad104368d95365bdb94b832a07be8a075952acd54508655d78ade8c4d", func := "stele/stelelaw33.ChunkerJoins", spec := "chunkerJoins", inPlace := ["internal/abi.NoEscape", "internal/bytealg.MakeNoZero"], unfollowed := true, recurses := true, apart := false, narrowed := true }
def ChunkerJoinsUptoSaid : Prop := chunkerJoinsUptoRow.holds Try.pinned (OpenSpec.upto chunkerJoinsSpec)

/-- 'stelelaw33.ChunkerLocality', WHERE WHAT IT READS IS OF BULK AT MOST 1048576: true; the input reads as it did. -/
def chunkerLocalityUptoRow : OpenClaim := { program := "ytflkmifcmaeccaa", sum := "bd784fbad104368d95365bdb94b832a07be8a075952acd54508655d78ade8c4d", func := "stele/stelelaw33.ChunkerLocality", spec := "chunkerLocality", inPlace := ["internal/abi.NoEscape", "internal/bytealg.MakeNoZero"], unfollowed := true, recurses := true, apart := false, narrowed := true }
def ChunkerLocalityUptoSaid : Prop := chunkerLocalityUptoRow.holds Try.pinned (OpenSpec.upto chunkerLocalitySpec)

/-- 'stelelaw33.ChunkerAppend', WHERE WHAT IT READS IS OF BULK AT MOST 1048576: true; the input reads as it did. -/
def chunkerAppendUptoRow : OpenClaim := { program := "ytflkmifcmaeccaa", sum := "bd784fbad104368d95365bdb94b832a07be8a075952acd54508655d78ade8c4d", func := "stele/stelelaw33.ChunkerAppend", spec := "chunkerAppend", inPlace := ["internal/abi.NoEscape", "internal/bytealg.MakeNoZero"], unfollowed := true, recurses := true, apart := false, narrowed := true }
def ChunkerAppendUptoSaid : Prop := chunkerAppendUptoRow.holds Try.pinned (OpenSpec.upto chunkerAppendSpec)

/-- 'stelelaw33.ChunkerRepetition', WHERE WHAT IT READS IS OF BULK AT MOST 1048576: true; the input reads as it did. -/
def chunkerRepetitionUptoRow : OpenClaim := { program := "ytflkmifcmaeccaa", sum := "bd784fbad104368d95365bdb94b832a07be8a075952acd54508655d78ade8c4d", func := "stele/stelelaw33.ChunkerRepetition", spec := "chunkerRepetition", inPlace := ["internal/abi.NoEscape", "internal/bytealg.MakeNoZero"], unfollowed := true, recurses := true, apart := false, narrowed := true }
def ChunkerRepetitionUptoSaid : Prop := chunkerRepetitionUptoRow.holds Try.pinned (OpenSpec.upto chunkerRepetitionSpec)

end Rows
end Go.Proofs.Ytflkmifcmaeccaa
