/-
  DERIVED. GIVEN WITH THE SEED: THE CARDS: each row of YtbgmhlbcohdobaaGreatDoorRows.lean that lists a variable, with what it lists TIED to the program's text (the seventh form; the later family's looks); each row that meets fmt, with fmt's text TOLD by the authors' own Lean function (tested against real Go, not proved from fmt's source: count such statements apart). THE CARD IS WHAT COUNTS. Prove the row's statement (the work); the ties are given (YtbgmhlbcohdobaaGreatDoorTie.lean); close each card by the builder's one call (the guide's Derived/Test/ToyasCard.lean, 'card_holds'). Laid BY PROGRAM, IN A SANDBOX (cutbox-door.mjs). By AI agents, Wed Nov 11 2026. No macro, syntax, notation, axiom, sorry.
-/
import Derived.Test.YtbgmhlbcohdobaaGreatDoorRows
import GoSem.ClaimSeven
namespace Go.Proofs.YtbgmhlbcohdobaaGreatDoor
namespace Rows

/-- THE TIED CARD OF 'laws.FnCustomers'. -/
def fnCustomersCard : Claim7 := { stood := { row := fnCustomersRow, standIns := [], harness := (true, "09f4d7ff4b852cf22ed1396570da7f400beaed86ed030951b18c6a161a1a5ffe"), looks := true }, kinds := [], alts := [], laidByText := true, laidKinds := [.data, .data, .data, .data, .sentinel, .sentinel, .pinned], laidTests := true, laidLooks := .later }
def FnCustomersCardSaid : Prop := Claim7.holds Tryz.pinned (.plain (OpenSpec.ofChange fnCustomersSpec)) fnCustomersCard

/-- THE SECOND FORM's CARD OF 'laws.FnCustomers'. -/
def fnCustomersUptoCard : Claim7 := { stood := { row := fnCustomersUptoRow, standIns := [], harness := (true, "09f4d7ff4b852cf22ed1396570da7f400beaed86ed030951b18c6a161a1a5ffe"), looks := true }, kinds := [], alts := [], laidByText := true, laidKinds := [.data, .data, .data, .data, .sentinel, .sentinel, .pinned], laidTests := true, laidLooks := .later }
def FnCustomersUptoCardSaid : Prop := Claim7.holds Tryz.pinned (.plain (OpenSpec.upto fnCustomersSpec)) fnCustomersUptoCard
end Rows
end Go.Proofs.YtbgmhlbcohdobaaGreatDoor
