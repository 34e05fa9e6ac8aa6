/-
  No cell of these rows narrows 'for every input' (looked for: loops, veiled, ifaces, maps, wideKeys, modest, calm, conditions, laid).
  DERIVED. THE GIVEN ROWS OF THIS SEAT. 6 by the template 'for every input the law returns true; each argument reads behind the call as it read before'; 0 by the template 'total and deterministic' (their statements: YtomlknjpaielgaaTotals.lean).
  GIVEN WITH THE SEED: the statements are not yours to turn. If you find one false, say at which input.
  Laid BY PROGRAM, IN A SANDBOX (cutbox-rows.mjs): the forced cells as the released guide's own fill.sh prints them over the translation e8b74dd43a5029f2… (all of the seat's roots in one cut). By AI agents, Wed Nov 11 2026. No macro, syntax, notation, axiom, sorry.
-/
import Derived.Test.YtomlknjpaielgaaChecked
import GoSem.Claim
import GoSem.ClaimJoined
import GoSem.ClaimMapViews
import Derived.JoinedTies
import Derived.KernelRfl
namespace Go.Proofs.Ytomlknjpaielgaa
/- THE CELL 'sum', in the pinned program and in every row, IS THE sha256 OF THE DUMP (.gsa) THAT YtomlknjpaielgaaProg.lean LOADS. Nothing in Lean hashes anything: it is a label: what it is worth is what the hold of that sum in a sandbox is worth. -/
noncomputable def Try.pinned : Pinned := { name := "ytomlknjpaielgaa", sum := "e8b74dd43a5029f2686b7bbb6fceab07fd6f15229616ff4333cafa70c1efafe2", checked := Try.checked }
namespace Rows
def none {H : Type} : Left H := { results := [], args := [] }

/-- 'stelelaw35.ChunkstorePut': WHATEVER THE INPUT: true; the input reads as it did. -/
def chunkstorePutSpec : ChangeSpec := { name := "chunkstorePut", fn := fun _ => fun
  | [d1, d2] => { results := [.lit (.bool true)], args := [d1, d2] }
  | _ => none }
def chunkstorePutRow : OpenClaim := { program := "ytomlknjpaielgaa", sum := "e8b74dd43a5029f2686b7bbb6fceab07fd6f15229616ff4333cafa70c1efafe2", func := "stele/stelelaw35.ChunkstorePut", spec := "chunkstorePut", inPlace := ["internal/abi.NoEscape", "internal/bytealg.MakeNoZero"], unfollowed := true, recurses := true, apart := false }
def ChunkstorePutSaid : Prop := chunkstorePutRow.holds Try.pinned (OpenSpec.ofChange chunkstorePutSpec)

/-- ITS FALSE NEIGHBOUR: 'it returns false'. Refute it at one input. -/
def chunkstorePutWrong : ChangeSpec := { name := "chunkstorePut", fn := fun _ => fun
  | [d1, d2] => { results := [.lit (.bool false)], args := [d1, d2] }
  | _ => none }
def ChunkstorePutWrongFalsely : Prop := chunkstorePutRow.holds Try.pinned (OpenSpec.ofChange chunkstorePutWrong)

/-- 'stelelaw35.ChunkstoreDeduplicates': WHATEVER THE INPUT: true; the input reads as it did. -/
def chunkstoreDeduplicatesSpec : ChangeSpec := { name := "chunkstoreDeduplicates", fn := fun _ => fun
  | [d1, d2] => { results := [.lit (.bool true)], args := [d1, d2] }
  | _ => none }
def chunkstoreDeduplicatesRow : OpenClaim := { program := "ytomlknjpaielgaa", sum := "e8b74dd43a5029f2686b7bbb6fceab07fd6f15229616ff4333cafa70c1efafe2", func := "stele/stelelaw35.ChunkstoreDeduplicates", spec := "chunkstoreDeduplicates", inPlace := ["internal/abi.NoEscape", "internal/bytealg.MakeNoZero"], unfollowed := true, recurses := true, apart := false }
def ChunkstoreDeduplicatesSaid : Prop := chunkstoreDeduplicatesRow.holds Try.pinned (OpenSpec.ofChange chunkstoreDeduplicatesSpec)

/-- ITS FALSE NEIGHBOUR: 'it returns false'. Refute it at one input. -/
def chunkstoreDeduplicatesWrong : ChangeSpec := { name := "chunkstoreDeduplicates", fn := fun _ => fun
  | [d1, d2] => { results := [.lit (.bool false)], args := [d1, d2] }
  | _ => none }
def ChunkstoreDeduplicatesWrongFalsely : Prop := chunkstoreDeduplicatesRow.holds Try.pinned (OpenSpec.ofChange chunkstoreDeduplicatesWrong)

/-- 'stelelaw35.ChunkstoreAppends': WHATEVER THE INPUT: true; the input reads as it did. -/
def chunkstoreAppendsSpec : ChangeSpec := { name := "chunkstoreAppends", fn := fun _ => fun
  | [d1, d2, d3] => { results := [.lit (.bool true)], args := [d1, d2, d3] }
  | _ => none }
def chunkstoreAppendsRow : OpenClaim := { program := "ytomlknjpaielgaa", sum := "e8b74dd43a5029f2686b7bbb6fceab07fd6f15229616ff4333cafa70c1efafe2", func := "stele/stelelaw35.ChunkstoreAppends", spec := "chunkstoreAppends", inPlace := ["internal/abi.NoEscape", "internal/bytealg.MakeNoZero"], unfollowed := true, recurses := true, apart := false }
def ChunkstoreAppendsSaid : Prop := chunkstoreAppendsRow.holds Try.pinned (OpenSpec.ofChange chunkstoreAppendsSpec)

/-- ITS FALSE NEIGHBOUR: 'it returns false'. Refute it at one input. -/
def chunkstoreAppendsWrong : ChangeSpec := { name := "chunkstoreAppends", fn := fun _ => fun
  | [d1, d2, d3] => { results := [.lit (.bool false)], args := [d1, d2, d3] }
  | _ => none }
def ChunkstoreAppendsWrongFalsely : Prop := chunkstoreAppendsRow.holds Try.pinned (OpenSpec.ofChange chunkstoreAppendsWrong)

/-- 'stelelaw35.ChunkstoreForm': WHATEVER THE INPUT: true; the input reads as it did. -/
def chunkstoreFormSpec : ChangeSpec := { name := "chunkstoreForm", fn := fun _ => fun
  | [d1, d2] => { results := [.lit (.bool true)], args := [d1, d2] }
  | _ => none }
def chunkstoreFormRow : OpenClaim := { program := "ytomlknjpaielgaa", sum := "e8b74dd43a5029f2686b7bbb6fceab07fd6f15229616ff4333cafa70c1efafe2", func := "stele/stelelaw35.ChunkstoreForm", spec := "chunkstoreForm", inPlace := ["internal/abi.NoEscape", "internal/bytealg.MakeNoZero"], unfollowed := true, recurses := true, apart := false }
def ChunkstoreFormSaid : Prop := chunkstoreFormRow.holds Try.pinned (OpenSpec.ofChange chunkstoreFormSpec)

/-- ITS FALSE NEIGHBOUR: 'it returns false'. Refute it at one input. -/
def chunkstoreFormWrong : ChangeSpec := { name := "chunkstoreForm", fn := fun _ => fun
  | [d1, d2] => { results := [.lit (.bool false)], args := [d1, d2] }
  | _ => none }
def ChunkstoreFormWrongFalsely : Prop := chunkstoreFormRow.holds Try.pinned (OpenSpec.ofChange chunkstoreFormWrong)

/-- 'stelelaw35.ChunkstoreChunks': WHATEVER THE INPUT: true; the input reads as it did. -/
def chunkstoreChunksSpec : ChangeSpec := { name := "chunkstoreChunks", fn := fun _ => fun
  | [d] => { results := [.lit (.bool true)], args := [d] }
  | _ => none }
def chunkstoreChunksRow : OpenClaim := { program := "ytomlknjpaielgaa", sum := "e8b74dd43a5029f2686b7bbb6fceab07fd6f15229616ff4333cafa70c1efafe2", func := "stele/stelelaw35.ChunkstoreChunks", spec := "chunkstoreChunks", inPlace := ["internal/abi.NoEscape", "internal/bytealg.MakeNoZero"], unfollowed := true, recurses := true, apart := false }
def ChunkstoreChunksSaid : Prop := chunkstoreChunksRow.holds Try.pinned (OpenSpec.ofChange chunkstoreChunksSpec)

/-- ITS FALSE NEIGHBOUR: 'it returns false'. Refute it at one input. -/
def chunkstoreChunksWrong : ChangeSpec := { name := "chunkstoreChunks", fn := fun _ => fun
  | [d] => { results := [.lit (.bool false)], args := [d] }
  | _ => none }
def ChunkstoreChunksWrongFalsely : Prop := chunkstoreChunksRow.holds Try.pinned (OpenSpec.ofChange chunkstoreChunksWrong)

/-- 'stelelaw35.ChunkstoreRoundTrip': WHATEVER THE INPUT: true; the input reads as it did. -/
def chunkstoreRoundTripSpec : ChangeSpec := { name := "chunkstoreRoundTrip", fn := fun _ => fun
  | [d1, d2] => { results := [.lit (.bool true)], args := [d1, d2] }
  | _ => none }
def chunkstoreRoundTripRow : OpenClaim := { program := "ytomlknjpaielgaa", sum := "e8b74dd43a5029f2686b7bbb6fceab07fd6f15229616ff4333cafa70c1efafe2", func := "stele/stelelaw35.ChunkstoreRoundTrip", spec := "chunkstoreRoundTrip", inPlace := ["internal/abi.NoEscape", "internal/bytealg.MakeNoZero"], unfollowed := true, recurses := true, apart := false }
def ChunkstoreRoundTripSaid : Prop := chunkstoreRoundTripRow.holds Try.pinned (OpenSpec.ofChange chunkstoreRoundTripSpec)

/-- ITS FALSE NEIGHBOUR: 'it returns false'. Refute it at one input. -/
def chunkstoreRoundTripWrong : ChangeSpec := { name := "chunkstoreRoundTrip", fn := fun _ => fun
  | [d1, d2] => { results := [.lit (.bool false)], args := [d1, d2] }
  | _ => none }
def ChunkstoreRoundTripWrongFalsely : Prop := chunkstoreRoundTripRow.holds Try.pinned (OpenSpec.ofChange chunkstoreRoundTripWrong)

/- THE SECOND FORM. 'bulk': how many values and letters a reading holds, each counted each time it is reached (what is shared counts as often as it is met; a slice's spare places count too). A statement '..UptoSaid' is the law's where the arguments, and the package variables that the reading takes, are together of bulk at most 1048576: NARROWER than '..Said'. Prove '..Said' where nothing that the law and all that it calls make is longer than what came in: it says more and counts as full. Else prove '..UptoSaid'. A law counts once. -/
mutual
def uptoBulk {H : Type} : DataW H → Nat
  | .lit (.string bytes) => bytes.length + 1
  | .lit _ => 1
  | .nil => 1
  | .ptr d => uptoBulk d + 1
  | .slice elems spare => uptoBulkAll elems + uptoBulkAll spare + 1
  | .agg parts => uptoBulkAll parts + 1
  | .iface _ d => uptoBulk d + 1
  | .map entries => uptoBulkEntries entries + 1
  | .held _ => 1
def uptoBulkAll {H : Type} : List (DataW H) → Nat
  | [] => 0
  | d :: r => uptoBulk d + uptoBulkAll r
def uptoBulkEntries {H : Type} : List (Lit × DataW H) → Nat
  | [] => 0
  | x :: r => uptoBulkEntry x + uptoBulkEntries r
def uptoBulkEntry {H : Type} : Lit × DataW H → Nat
  | (.string bytes, d) => bytes.length + uptoBulk d + 1
  | (_, d) => uptoBulk d + 1
 end
def uptoSmall : (H : Type) → List (DataW H) → Bool := fun _ ds => decide (uptoBulkAll ds ≤ 1048576)
def OpenSpec.upto (s : _root_.Go.ChangeSpec) : _root_.Go.OpenSpec := { _root_.Go.OpenSpec.ofChange s with cond := some uptoSmall }

/-- 'stelelaw35.ChunkstorePut', WHERE WHAT IT READS IS OF BULK AT MOST 1048576: true; the input reads as it did. -/
def chunkstorePutUptoRow : OpenClaim := { program := "ytomlknjpaielgaa", sum := "e8b74dd43a5029f2686b7bbb6fceab07fd6f15229616ff4333cafa70c1efafe2", func := "stele/stelelaw35.ChunkstorePut", spec := "chunkstorePut", inPlace := ["internal/abi.NoEscape", "internal/bytealg.MakeNoZero"], unfollowed := true, recurses := true, apart := false, narrowed := true }
def ChunkstorePutUptoSaid : Prop := chunkstorePutUptoRow.holds Try.pinned (OpenSpec.upto chunkstorePutSpec)

/-- 'stelelaw35.ChunkstoreDeduplicates', WHERE WHAT IT READS IS OF BULK AT MOST 1048576: true; the input reads as it did. -/
def chunkstoreDeduplicatesUptoRow : OpenClaim := { program := "ytomlknjpaielgaa", sum := "e8b74dd43a5029f2686b7bbb6fceab07fd6f15229616ff4333cafa70c1efafe2", func := "stele/stelelaw35.ChunkstoreDeduplicates", spec := "chunkstoreDeduplicates", inPlace := ["internal/abi.NoEscape", "internal/bytealg.MakeNoZero"], unfollowed := true, recurses := true, apart := false, narrowed := true }
def ChunkstoreDeduplicatesUptoSaid : Prop := chunkstoreDeduplicatesUptoRow.holds Try.pinned (OpenSpec.upto chunkstoreDeduplicatesSpec)

/-- 'stelelaw35.ChunkstoreAppends', WHERE WHAT IT READS IS OF BULK AT MOST 1048576: true; the input reads as it did. -/
def chunkstoreAppendsUptoRow : OpenClaim := { program := "ytomlknjpaielgaa", sum := "e8b74dd43a5029f2686b7bbb6fceab07fd6f15229616ff4333cafa70c1efafe2", func := "stele/stelelaw35.ChunkstoreAppends", spec := "chunkstoreAppends", inPlace := ["internal/abi.NoEscape", "internal/bytealg.MakeNoZero"], unfollowed := true, recurses := true, apart := false, narrowed := true }
def ChunkstoreAppendsUptoSaid : Prop := chunkstoreAppendsUptoRow.holds Try.pinned (OpenSpec.upto chunkstoreAppendsSpec)

/-- 'stelelaw35.ChunkstoreForm', WHERE WHAT IT READS IS OF BULK AT MOST 1048576: true; the input reads as it did. -/
def chunkstoreFormUptoRow : OpenClaim := { program := "ytomlknjpaielgaa", sum := "e8b74dd43a5029f2686b7bbb6fceab07fd6f15229616ff4333cafa70c1efafe2", func := "stele/stelelaw35.ChunkstoreForm", spec := "chunkstoreForm", inPlace := ["internal/abi.NoEscape", "internal/bytealg.MakeNoZero"], unfollowed := true, recurses := true, apart := false, narrowed := true }
def ChunkstoreFormUptoSaid : Prop := chunkstoreFormUptoRow.holds Try.pinned (OpenSpec.upto chunkstoreFormSpec)

/-- 'stelelaw35.ChunkstoreChunks', WHERE WHAT IT READS IS OF BULK AT MOST 1048576: true; the input reads as it did. -/
def chunkstoreChunksUptoRow : OpenClaim := { program := "ytomlknjpaielgaa", sum := "e8b74dd43a5029f2686b7bbb6fceab07fd6f15229616ff4333cafa70c1efafe2", func := "stele/stelelaw35.ChunkstoreChunks", spec := "chunkstoreChunks", inPlace := ["internal/abi.NoEscape", "internal/bytealg.MakeNoZero"], unfollowed := true, recurses := true, apart := false, narrowed := true }
def ChunkstoreChunksUptoSaid : Prop := chunkstoreChunksUptoRow.holds Try.pinned (OpenSpec.upto chunkstoreChunksSpec)

/-- 'stelelaw35.ChunkstoreRoundTrip', WHERE WHAT IT READS IS OF BULK AT MOST 1048576: true; the input reads as it did. -/
def chunkstoreRoundTripUptoRow : OpenClaim := { program := "ytomlknjpaielgaa", sum := "e8b74dd43a5029f2686b7bbb6fceab07fd6f15229616ff4333cafa70c1efafe2", func := "stele/stelelaw35.ChunkstoreRoundTrip", spec := "chunkstoreRoundTrip", inPlace := ["internal/abi.NoEscape", "internal/bytealg.MakeNoZero"], unfollowed := true, recurses := true, apart := false, narrowed := true }
def ChunkstoreRoundTripUptoSaid : Prop := chunkstoreRoundTripUptoRow.holds Try.pinned (OpenSpec.upto chunkstoreRoundTripSpec)

end Rows
end Go.Proofs.Ytomlknjpaielgaa
