/-
  DERIVED. GIVEN WITH THE SEED: THE CARDS: each row of YtndbppplkfpgnaaDoorRows.lean that lists a variable, with what it lists TIED to the program's text (the seventh form; the later family's looks); each row that meets fmt, with fmt's text TOLD by the authors' own Lean function (tested against real Go, not proved from fmt's source: count such statements apart). THE CARD IS WHAT COUNTS. Prove the row's statement (the work); the ties are given (YtndbppplkfpgnaaDoorTie.lean); close each card by the builder's one call (the guide's Derived/Test/ToyasCard.lean, 'card_holds'). Laid BY PROGRAM, IN A SANDBOX (cutbox-door.mjs). By AI agents, Wed Nov 11 2026. No macro, syntax, notation, axiom, sorry.
-/
import Derived.Test.YtndbppplkfpgnaaDoorRows
import GoSem.ClaimSeven
namespace Go.Proofs.YtndbppplkfpgnaaDoor
namespace Rows

/-- THE TIED CARD OF 'laws.FnExactBlocksOfRentals'. -/
def fnExactBlocksOfRentalsCard : Claim7 := { stood := { row := fnExactBlocksOfRentalsRow, standIns := [], harness := (true, "ea9f96b5420217cb634c1a4d760c86d56096420af0aeb7eb380dc4d60f261d10"), looks := false }, kinds := [], alts := [], laidByText := true, laidKinds := [.data, .data, .data], laidTests := true, laidLooks := .later }
def FnExactBlocksOfRentalsCardSaid : Prop := Claim7.holds Tryd.pinned (.plain (OpenSpec.ofChange fnExactBlocksOfRentalsSpec)) fnExactBlocksOfRentalsCard

/-- THE SECOND FORM's CARD OF 'laws.FnExactBlocksOfRentals'. -/
def fnExactBlocksOfRentalsUptoCard : Claim7 := { stood := { row := fnExactBlocksOfRentalsUptoRow, standIns := [], harness := (true, "ea9f96b5420217cb634c1a4d760c86d56096420af0aeb7eb380dc4d60f261d10"), looks := false }, kinds := [], alts := [], laidByText := true, laidKinds := [.data, .data, .data], laidTests := true, laidLooks := .later }
def FnExactBlocksOfRentalsUptoCardSaid : Prop := Claim7.holds Tryd.pinned (.plain (OpenSpec.upto fnExactBlocksOfRentalsSpec)) fnExactBlocksOfRentalsUptoCard
end Rows
end Go.Proofs.YtndbppplkfpgnaaDoor
