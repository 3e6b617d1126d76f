/-
  DERIVED. GIVEN WITH THE SEED: THE CARDS: each row of YthfedegmplmgfaaGreatDoorRows.lean that lists a variable, with what it lists TIED to the program's text (the seventh form; the later family's looks); each row that meets fmt, with fmt's text TOLD by the authors' own Lean function (tested against real Go, not proved from fmt's source: count such statements apart). THE CARD IS WHAT COUNTS. Prove the row's statement (the work); the ties are given (YthfedegmplmgfaaGreatDoorTie.lean); close each card by the builder's one call (the guide's Derived/Test/ToyasCard.lean, 'card_holds'). Laid BY PROGRAM, IN A SANDBOX (cutbox-door.mjs). By AI agents, Wed Nov 11 2026. No macro, syntax, notation, axiom, sorry.
-/
import Derived.Test.YthfedegmplmgfaaGreatDoorRows
import GoSem.ClaimSeven
namespace Go.Proofs.YthfedegmplmgfaaGreatDoor
namespace Rows

/-- THE TIED CARD OF 'laws.FnRentals'. -/
def fnRentalsCard : Claim7 := { stood := { row := fnRentalsRow, standIns := [], harness := (true, "594dcb50e8854b0cd888c5fe8a3c96e13a75a865902a43a72e10f9e054de686c"), looks := true }, kinds := [], alts := [], laidByText := true, laidKinds := [.data, .data, .data, .data, .sentinel, .sentinel, .pinned], laidTests := true, laidLooks := .later }
def FnRentalsCardSaid : Prop := Claim7.holds Tryz.pinned (.plain (OpenSpec.ofChange fnRentalsSpec)) fnRentalsCard

/-- THE SECOND FORM's CARD OF 'laws.FnRentals'. -/
def fnRentalsUptoCard : Claim7 := { stood := { row := fnRentalsUptoRow, standIns := [], harness := (true, "594dcb50e8854b0cd888c5fe8a3c96e13a75a865902a43a72e10f9e054de686c"), looks := true }, kinds := [], alts := [], laidByText := true, laidKinds := [.data, .data, .data, .data, .sentinel, .sentinel, .pinned], laidTests := true, laidLooks := .later }
def FnRentalsUptoCardSaid : Prop := Claim7.holds Tryz.pinned (.plain (OpenSpec.upto fnRentalsSpec)) fnRentalsUptoCard
end Rows
end Go.Proofs.YthfedegmplmgfaaGreatDoor
