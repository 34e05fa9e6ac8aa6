/-
  DERIVED. GIVEN WITH THE SEED: THE CARDS: each row of YtojgopbaiflfgaaGreatDoorRows.lean that lists a variable, with what it lists TIED to the program's text (the seventh form; the later family's looks); each row that meets fmt, with fmt's text TOLD by the authors' own Lean function (tested against real Go, not proved from fmt's source: count such statements apart). THE CARD IS WHAT COUNTS. Prove the row's statement (the work); the ties are given (YtojgopbaiflfgaaGreatDoorTie.lean); close each card by the builder's one call (the guide's Derived/Test/ToyasCard.lean, 'card_holds'). Laid BY PROGRAM, IN A SANDBOX (cutbox-door.mjs). By AI agents, Wed Nov 11 2026. No macro, syntax, notation, axiom, sorry.
-/
import Derived.Test.YtojgopbaiflfgaaGreatDoorRows
import GoSem.ClaimSeven
namespace Go.Proofs.YtojgopbaiflfgaaGreatDoor
namespace Rows

/-- THE TIED CARD OF 'steletop.TopLoadedProgram'. -/
def topLoadedProgramCard : Claim7 := { stood := { row := topLoadedProgramRow, standIns := [], harness := (true, "6850877905a59cabfbf94a6e88ca8f9c6c74b8aa90fae44e0bc74c66725bce2f"), looks := true }, kinds := [], alts := [], laidByText := true, laidKinds := [.data, .data, .data, .data, .sentinel, .sentinel, .pinned], laidTests := true, laidLooks := .later }
def TopLoadedProgramCardSaid : Prop := Claim7.holds Tryz.pinned (.plain (OpenSpec.ofChange topLoadedProgramSpec)) topLoadedProgramCard

/-- THE SECOND FORM's CARD OF 'steletop.TopLoadedProgram'. -/
def topLoadedProgramUptoCard : Claim7 := { stood := { row := topLoadedProgramUptoRow, standIns := [], harness := (true, "6850877905a59cabfbf94a6e88ca8f9c6c74b8aa90fae44e0bc74c66725bce2f"), looks := true }, kinds := [], alts := [], laidByText := true, laidKinds := [.data, .data, .data, .data, .sentinel, .sentinel, .pinned], laidTests := true, laidLooks := .later }
def TopLoadedProgramUptoCardSaid : Prop := Claim7.holds Tryz.pinned (.plain (OpenSpec.upto topLoadedProgramSpec)) topLoadedProgramUptoCard
end Rows
end Go.Proofs.YtojgopbaiflfgaaGreatDoor
