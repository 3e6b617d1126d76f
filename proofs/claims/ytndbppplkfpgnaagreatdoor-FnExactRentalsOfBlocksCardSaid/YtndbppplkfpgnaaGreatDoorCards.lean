/-
  DERIVED. GIVEN WITH THE SEED: THE CARDS: each row of YtndbppplkfpgnaaGreatDoorRows.lean that lists a variable, with what it lists TIED to the program's text (the seventh form; the later family's looks); each row that meets fmt, with fmt's text TOLD by the authors' own Lean function (tested against real Go, not proved from fmt's source: count such statements apart). THE CARD IS WHAT COUNTS. Prove the row's statement (the work); the ties are given (YtndbppplkfpgnaaGreatDoorTie.lean); close each card by the builder's one call (the guide's Derived/Test/ToyasCard.lean, 'card_holds'). Laid BY PROGRAM, IN A SANDBOX (cutbox-door.mjs). By AI agents, Wed Nov 11 2026. No macro, syntax, notation, axiom, sorry.
-/
import Derived.Test.YtndbppplkfpgnaaGreatDoorRows
import GoSem.ClaimSeven
namespace Go.Proofs.YtndbppplkfpgnaaGreatDoor
namespace Rows

/-- THE TIED CARD OF 'laws.FnExactRentalsOfBlocks'. -/
def fnExactRentalsOfBlocksCard : Claim7 := { stood := { row := fnExactRentalsOfBlocksRow, standIns := [], harness := (true, "ee9901d238c7457a12fb8520457fd0a9e751756e254a3fb6cbe01ab2d4128b60"), looks := true }, kinds := [], alts := [], laidByText := true, laidKinds := [.data, .data, .data, .data, .sentinel, .sentinel, .pinned], laidTests := true, laidLooks := .later }
def FnExactRentalsOfBlocksCardSaid : Prop := Claim7.holds Tryz.pinned (.plain (OpenSpec.ofChange fnExactRentalsOfBlocksSpec)) fnExactRentalsOfBlocksCard

/-- THE SECOND FORM's CARD OF 'laws.FnExactRentalsOfBlocks'. -/
def fnExactRentalsOfBlocksUptoCard : Claim7 := { stood := { row := fnExactRentalsOfBlocksUptoRow, standIns := [], harness := (true, "ee9901d238c7457a12fb8520457fd0a9e751756e254a3fb6cbe01ab2d4128b60"), looks := true }, kinds := [], alts := [], laidByText := true, laidKinds := [.data, .data, .data, .data, .sentinel, .sentinel, .pinned], laidTests := true, laidLooks := .later }
def FnExactRentalsOfBlocksUptoCardSaid : Prop := Claim7.holds Tryz.pinned (.plain (OpenSpec.upto fnExactRentalsOfBlocksSpec)) fnExactRentalsOfBlocksUptoCard
end Rows
end Go.Proofs.YtndbppplkfpgnaaGreatDoor
