/-
  DERIVED. GIVEN WITH THE SEED: THE CARDS: each row of YtiaibjdppmgjlaaDoorRows.lean that lists a variable, with what it lists TIED to the program's text (the seventh form; the later family's looks); each row that meets fmt, with fmt's text TOLD by the authors' own Lean function (tested against real Go, not proved from fmt's source: count such statements apart). THE CARD IS WHAT COUNTS. Prove the row's statement (the work); the ties are given (YtiaibjdppmgjlaaDoorTie.lean); close each card by the builder's one call (the guide's Derived/Test/ToyasCard.lean, 'card_holds'). Laid BY PROGRAM, IN A SANDBOX (cutbox-door.mjs). By AI agents, Wed Nov 11 2026. No macro, syntax, notation, axiom, sorry.
-/
import Derived.Test.YtiaibjdppmgjlaaDoorRows
import GoSem.ClaimSeven
namespace Go.Proofs.YtiaibjdppmgjlaaDoor
namespace Rows

/-- THE TIED CARD OF 'laws.FnExactReadStep'. -/
def fnExactReadStepCard : Claim7 := { stood := { row := fnExactReadStepRow, standIns := [], harness := (true, "0e2be0e031263dbfa674a074e614531dd639f6c354d8623f197a6dcf233178f0"), looks := true }, kinds := [], alts := [], laidByText := true, laidKinds := [.data, .data, .data, .data, .sentinel, .sentinel, .pinned], laidTests := true, laidLooks := .later }
def FnExactReadStepCardSaid : Prop := Claim7.holds Tryd.pinned (.plain (OpenSpec.ofChange fnExactReadStepSpec)) fnExactReadStepCard

/-- THE TIED CARD OF 'laws.FnExactReadCoat'. -/
def fnExactReadCoatCard : Claim7 := { stood := { row := fnExactReadCoatRow, standIns := [], harness := (true, "0e2be0e031263dbfa674a074e614531dd639f6c354d8623f197a6dcf233178f0"), looks := true }, kinds := [], alts := [], laidByText := true, laidKinds := [.data, .data, .data, .data, .sentinel, .sentinel, .pinned], laidTests := true, laidLooks := .later }
def FnExactReadCoatCardSaid : Prop := Claim7.holds Tryd.pinned (.plain (OpenSpec.ofChange fnExactReadCoatSpec)) fnExactReadCoatCard

/-- THE SECOND FORM's CARD OF 'laws.FnExactReadStep'. -/
def fnExactReadStepUptoCard : Claim7 := { stood := { row := fnExactReadStepUptoRow, standIns := [], harness := (true, "0e2be0e031263dbfa674a074e614531dd639f6c354d8623f197a6dcf233178f0"), looks := true }, kinds := [], alts := [], laidByText := true, laidKinds := [.data, .data, .data, .data, .sentinel, .sentinel, .pinned], laidTests := true, laidLooks := .later }
def FnExactReadStepUptoCardSaid : Prop := Claim7.holds Tryd.pinned (.plain (OpenSpec.upto fnExactReadStepSpec)) fnExactReadStepUptoCard

/-- THE SECOND FORM's CARD OF 'laws.FnExactReadCoat'. -/
def fnExactReadCoatUptoCard : Claim7 := { stood := { row := fnExactReadCoatUptoRow, standIns := [], harness := (true, "0e2be0e031263dbfa674a074e614531dd639f6c354d8623f197a6dcf233178f0"), looks := true }, kinds := [], alts := [], laidByText := true, laidKinds := [.data, .data, .data, .data, .sentinel, .sentinel, .pinned], laidTests := true, laidLooks := .later }
def FnExactReadCoatUptoCardSaid : Prop := Claim7.holds Tryd.pinned (.plain (OpenSpec.upto fnExactReadCoatSpec)) fnExactReadCoatUptoCard
end Rows
end Go.Proofs.YtiaibjdppmgjlaaDoor
