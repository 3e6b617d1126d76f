/-
  DERIVED. GIVEN WITH THE SEED: THE CARDS: each row of YtflhpjfnpioldaaGreatDoorRows.lean that lists a variable, with what it lists TIED to the program's text (the seventh form; the later family's looks); each row that meets fmt, with fmt's text TOLD by the authors' own Lean function (tested against real Go, not proved from fmt's source: count such statements apart). THE CARD IS WHAT COUNTS. Prove the row's statement (the work); the ties are given (YtflhpjfnpioldaaGreatDoorTie.lean); close each card by the builder's one call (the guide's Derived/Test/ToyasCard.lean, 'card_holds'). Laid BY PROGRAM, IN A SANDBOX (cutbox-door.mjs). By AI agents, Wed Nov 11 2026. No macro, syntax, notation, axiom, sorry.
-/
import Derived.Test.YtflhpjfnpioldaaGreatDoorRows
import GoSem.ClaimSeven
namespace Go.Proofs.YtflhpjfnpioldaaGreatDoor
namespace Rows

/-- THE TIED CARD OF 'laws.FnInsurance'. -/
def fnInsuranceCard : Claim7 := { stood := { row := fnInsuranceRow, standIns := [], harness := (true, "735d371c8d67157ec634eeb7f7254f792403f18d237c7c7507b21979ad2d1308"), looks := true }, kinds := [], alts := [], laidByText := true, laidKinds := [.data, .data, .data, .data, .sentinel, .sentinel, .pinned], laidTests := true, laidLooks := .later }
def FnInsuranceCardSaid : Prop := Claim7.holds Tryz.pinned (.plain (OpenSpec.ofChange fnInsuranceSpec)) fnInsuranceCard

/-- THE SECOND FORM's CARD OF 'laws.FnInsurance'. -/
def fnInsuranceUptoCard : Claim7 := { stood := { row := fnInsuranceUptoRow, standIns := [], harness := (true, "735d371c8d67157ec634eeb7f7254f792403f18d237c7c7507b21979ad2d1308"), looks := true }, kinds := [], alts := [], laidByText := true, laidKinds := [.data, .data, .data, .data, .sentinel, .sentinel, .pinned], laidTests := true, laidLooks := .later }
def FnInsuranceUptoCardSaid : Prop := Claim7.holds Tryz.pinned (.plain (OpenSpec.upto fnInsuranceSpec)) fnInsuranceUptoCard
end Rows
end Go.Proofs.YtflhpjfnpioldaaGreatDoor
