/-
  DERIVED. GIVEN WITH THE SEED: THE CARDS: each row of YtbfmfiaenihmoaaGreatDoorRows.lean that lists a variable, with what it lists TIED to the program's text (the seventh form; the later family's looks); each row that meets fmt, with fmt's text TOLD by the authors' own Lean function (tested against real Go, not proved from fmt's source: count such statements apart). THE CARD IS WHAT COUNTS. Prove the row's statement (the work); the ties are given (YtbfmfiaenihmoaaGreatDoorTie.lean); close each card by the builder's one call (the guide's Derived/Test/ToyasCard.lean, 'card_holds'). Laid BY PROGRAM, IN A SANDBOX (cutbox-door.mjs). By AI agents, Wed Nov 11 2026. No macro, syntax, notation, axiom, sorry.
-/
import Derived.Test.YtbfmfiaenihmoaaGreatDoorRows
import GoSem.ClaimSeven
namespace Go.Proofs.YtbfmfiaenihmoaaGreatDoor
namespace Rows

/-- THE TIED CARD OF 'laws.FnPrices'. -/
def fnPricesCard : Claim7 := { stood := { row := fnPricesRow, standIns := [], harness := (true, "69b419f712a8a0f09eb4cc071d7153cafde240c393c2b3e25e9fd6300b4a1434"), looks := true }, kinds := [], alts := [], laidByText := true, laidKinds := [.data, .data, .data, .data, .sentinel, .sentinel, .pinned], laidTests := true, laidLooks := .later }
def FnPricesCardSaid : Prop := Claim7.holds Tryz.pinned (.plain (OpenSpec.ofChange fnPricesSpec)) fnPricesCard

/-- THE SECOND FORM's CARD OF 'laws.FnPrices'. -/
def fnPricesUptoCard : Claim7 := { stood := { row := fnPricesUptoRow, standIns := [], harness := (true, "69b419f712a8a0f09eb4cc071d7153cafde240c393c2b3e25e9fd6300b4a1434"), looks := true }, kinds := [], alts := [], laidByText := true, laidKinds := [.data, .data, .data, .data, .sentinel, .sentinel, .pinned], laidTests := true, laidLooks := .later }
def FnPricesUptoCardSaid : Prop := Claim7.holds Tryz.pinned (.plain (OpenSpec.upto fnPricesSpec)) fnPricesUptoCard
end Rows
end Go.Proofs.YtbfmfiaenihmoaaGreatDoor
