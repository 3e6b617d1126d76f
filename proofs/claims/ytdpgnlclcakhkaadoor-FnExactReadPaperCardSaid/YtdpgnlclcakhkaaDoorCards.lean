/-
  DERIVED. GIVEN WITH THE SEED: THE CARDS: each row of YtdpgnlclcakhkaaDoorRows.lean that lists a variable, with what it lists TIED to the program's text (the seventh form; the later family's looks); each row that meets fmt, with fmt's text TOLD by the authors' own Lean function (tested against real Go, not proved from fmt's source: count such statements apart). THE CARD IS WHAT COUNTS. Prove the row's statement (the work); the ties are given (YtdpgnlclcakhkaaDoorTie.lean); close each card by the builder's one call (the guide's Derived/Test/ToyasCard.lean, 'card_holds'). Laid BY PROGRAM, IN A SANDBOX (cutbox-door.mjs). By AI agents, Wed Nov 11 2026. No macro, syntax, notation, axiom, sorry.
-/
import Derived.Test.YtdpgnlclcakhkaaDoorRows
import GoSem.ClaimSeven
namespace Go.Proofs.YtdpgnlclcakhkaaDoor
namespace Rows

/-- THE TIED CARD OF 'laws.FnExactReadRib'. -/
def fnExactReadRibCard : Claim7 := { stood := { row := fnExactReadRibRow, standIns := [], harness := (true, "e71a68059fae73ec671ba405e784243a67dd4063abad2286e542d845735326a7"), looks := true }, kinds := [], alts := [], laidByText := true, laidKinds := [.data, .data, .data, .data, .sentinel, .sentinel, .pinned], laidTests := true, laidLooks := .later }
def FnExactReadRibCardSaid : Prop := Claim7.holds Tryd.pinned (.plain (OpenSpec.ofChange fnExactReadRibSpec)) fnExactReadRibCard

/-- THE TIED CARD OF 'laws.FnExactReadGood'. -/
def fnExactReadGoodCard : Claim7 := { stood := { row := fnExactReadGoodRow, standIns := [], harness := (true, "e71a68059fae73ec671ba405e784243a67dd4063abad2286e542d845735326a7"), looks := true }, kinds := [], alts := [], laidByText := true, laidKinds := [.data, .data, .data, .data, .sentinel, .sentinel, .pinned], laidTests := true, laidLooks := .later }
def FnExactReadGoodCardSaid : Prop := Claim7.holds Tryd.pinned (.plain (OpenSpec.ofChange fnExactReadGoodSpec)) fnExactReadGoodCard

/-- THE TIED CARD OF 'laws.FnExactReadMode'. -/
def fnExactReadModeCard : Claim7 := { stood := { row := fnExactReadModeRow, standIns := [], harness := (true, "e71a68059fae73ec671ba405e784243a67dd4063abad2286e542d845735326a7"), looks := true }, kinds := [], alts := [], laidByText := true, laidKinds := [.data, .data, .data, .data, .sentinel, .sentinel, .pinned], laidTests := true, laidLooks := .later }
def FnExactReadModeCardSaid : Prop := Claim7.holds Tryd.pinned (.plain (OpenSpec.ofChange fnExactReadModeSpec)) fnExactReadModeCard

/-- THE TIED CARD OF 'laws.FnExactReadQuote'. -/
def fnExactReadQuoteCard : Claim7 := { stood := { row := fnExactReadQuoteRow, standIns := [], harness := (true, "e71a68059fae73ec671ba405e784243a67dd4063abad2286e542d845735326a7"), looks := true }, kinds := [], alts := [], laidByText := true, laidKinds := [.data, .data, .data, .data, .sentinel, .sentinel, .pinned], laidTests := true, laidLooks := .later }
def FnExactReadQuoteCardSaid : Prop := Claim7.holds Tryd.pinned (.plain (OpenSpec.ofChange fnExactReadQuoteSpec)) fnExactReadQuoteCard

/-- THE TIED CARD OF 'laws.FnExactReadPolicy'. -/
def fnExactReadPolicyCard : Claim7 := { stood := { row := fnExactReadPolicyRow, standIns := [], harness := (true, "e71a68059fae73ec671ba405e784243a67dd4063abad2286e542d845735326a7"), looks := true }, kinds := [], alts := [], laidByText := true, laidKinds := [.data, .data, .data, .data, .sentinel, .sentinel, .pinned], laidTests := true, laidLooks := .later }
def FnExactReadPolicyCardSaid : Prop := Claim7.holds Tryd.pinned (.plain (OpenSpec.ofChange fnExactReadPolicySpec)) fnExactReadPolicyCard

/-- THE TIED CARD OF 'laws.FnExactReadPeg'. -/
def fnExactReadPegCard : Claim7 := { stood := { row := fnExactReadPegRow, standIns := [], harness := (true, "e71a68059fae73ec671ba405e784243a67dd4063abad2286e542d845735326a7"), looks := true }, kinds := [], alts := [], laidByText := true, laidKinds := [.data, .data, .data, .data, .sentinel, .sentinel, .pinned], laidTests := true, laidLooks := .later }
def FnExactReadPegCardSaid : Prop := Claim7.holds Tryd.pinned (.plain (OpenSpec.ofChange fnExactReadPegSpec)) fnExactReadPegCard

/-- THE TIED CARD OF 'laws.FnExactReadWork'. -/
def fnExactReadWorkCard : Claim7 := { stood := { row := fnExactReadWorkRow, standIns := [], harness := (true, "e71a68059fae73ec671ba405e784243a67dd4063abad2286e542d845735326a7"), looks := true }, kinds := [], alts := [], laidByText := true, laidKinds := [.data, .data, .data, .data, .sentinel, .sentinel, .pinned], laidTests := true, laidLooks := .later }
def FnExactReadWorkCardSaid : Prop := Claim7.holds Tryd.pinned (.plain (OpenSpec.ofChange fnExactReadWorkSpec)) fnExactReadWorkCard

/-- THE TIED CARD OF 'laws.FnExactReadPot'. -/
def fnExactReadPotCard : Claim7 := { stood := { row := fnExactReadPotRow, standIns := [], harness := (true, "e71a68059fae73ec671ba405e784243a67dd4063abad2286e542d845735326a7"), looks := true }, kinds := [], alts := [], laidByText := true, laidKinds := [.data, .data, .data, .data, .sentinel, .sentinel, .pinned], laidTests := true, laidLooks := .later }
def FnExactReadPotCardSaid : Prop := Claim7.holds Tryd.pinned (.plain (OpenSpec.ofChange fnExactReadPotSpec)) fnExactReadPotCard

/-- THE TIED CARD OF 'laws.FnExactReadPaper'. -/
def fnExactReadPaperCard : Claim7 := { stood := { row := fnExactReadPaperRow, standIns := [], harness := (true, "e71a68059fae73ec671ba405e784243a67dd4063abad2286e542d845735326a7"), looks := true }, kinds := [], alts := [], laidByText := true, laidKinds := [.data, .data, .data, .data, .sentinel, .sentinel, .pinned], laidTests := true, laidLooks := .later }
def FnExactReadPaperCardSaid : Prop := Claim7.holds Tryd.pinned (.plain (OpenSpec.ofChange fnExactReadPaperSpec)) fnExactReadPaperCard

/-- THE TIED CARD OF 'laws.FnExactReadRental'. -/
def fnExactReadRentalCard : Claim7 := { stood := { row := fnExactReadRentalRow, standIns := [], harness := (true, "e71a68059fae73ec671ba405e784243a67dd4063abad2286e542d845735326a7"), looks := true }, kinds := [], alts := [], laidByText := true, laidKinds := [.data, .data, .data, .data, .sentinel, .sentinel, .pinned], laidTests := true, laidLooks := .later }
def FnExactReadRentalCardSaid : Prop := Claim7.holds Tryd.pinned (.plain (OpenSpec.ofChange fnExactReadRentalSpec)) fnExactReadRentalCard

/-- THE TIED CARD OF 'laws.FnExactReadStep'. -/
def fnExactReadStepCard : Claim7 := { stood := { row := fnExactReadStepRow, standIns := [], harness := (true, "e71a68059fae73ec671ba405e784243a67dd4063abad2286e542d845735326a7"), looks := true }, kinds := [], alts := [], laidByText := true, laidKinds := [.data, .data, .data, .data, .sentinel, .sentinel, .pinned], laidTests := true, laidLooks := .later }
def FnExactReadStepCardSaid : Prop := Claim7.holds Tryd.pinned (.plain (OpenSpec.ofChange fnExactReadStepSpec)) fnExactReadStepCard

/-- THE TIED CARD OF 'laws.FnExactReadCoat'. -/
def fnExactReadCoatCard : Claim7 := { stood := { row := fnExactReadCoatRow, standIns := [], harness := (true, "e71a68059fae73ec671ba405e784243a67dd4063abad2286e542d845735326a7"), looks := true }, kinds := [], alts := [], laidByText := true, laidKinds := [.data, .data, .data, .data, .sentinel, .sentinel, .pinned], laidTests := true, laidLooks := .later }
def FnExactReadCoatCardSaid : Prop := Claim7.holds Tryd.pinned (.plain (OpenSpec.ofChange fnExactReadCoatSpec)) fnExactReadCoatCard

/-- THE SECOND FORM's CARD OF 'laws.FnExactReadRib'. -/
def fnExactReadRibUptoCard : Claim7 := { stood := { row := fnExactReadRibUptoRow, standIns := [], harness := (true, "e71a68059fae73ec671ba405e784243a67dd4063abad2286e542d845735326a7"), looks := true }, kinds := [], alts := [], laidByText := true, laidKinds := [.data, .data, .data, .data, .sentinel, .sentinel, .pinned], laidTests := true, laidLooks := .later }
def FnExactReadRibUptoCardSaid : Prop := Claim7.holds Tryd.pinned (.plain (OpenSpec.upto fnExactReadRibSpec)) fnExactReadRibUptoCard

/-- THE SECOND FORM's CARD OF 'laws.FnExactReadGood'. -/
def fnExactReadGoodUptoCard : Claim7 := { stood := { row := fnExactReadGoodUptoRow, standIns := [], harness := (true, "e71a68059fae73ec671ba405e784243a67dd4063abad2286e542d845735326a7"), looks := true }, kinds := [], alts := [], laidByText := true, laidKinds := [.data, .data, .data, .data, .sentinel, .sentinel, .pinned], laidTests := true, laidLooks := .later }
def FnExactReadGoodUptoCardSaid : Prop := Claim7.holds Tryd.pinned (.plain (OpenSpec.upto fnExactReadGoodSpec)) fnExactReadGoodUptoCard

/-- THE SECOND FORM's CARD OF 'laws.FnExactReadMode'. -/
def fnExactReadModeUptoCard : Claim7 := { stood := { row := fnExactReadModeUptoRow, standIns := [], harness := (true, "e71a68059fae73ec671ba405e784243a67dd4063abad2286e542d845735326a7"), looks := true }, kinds := [], alts := [], laidByText := true, laidKinds := [.data, .data, .data, .data, .sentinel, .sentinel, .pinned], laidTests := true, laidLooks := .later }
def FnExactReadModeUptoCardSaid : Prop := Claim7.holds Tryd.pinned (.plain (OpenSpec.upto fnExactReadModeSpec)) fnExactReadModeUptoCard

/-- THE SECOND FORM's CARD OF 'laws.FnExactReadQuote'. -/
def fnExactReadQuoteUptoCard : Claim7 := { stood := { row := fnExactReadQuoteUptoRow, standIns := [], harness := (true, "e71a68059fae73ec671ba405e784243a67dd4063abad2286e542d845735326a7"), looks := true }, kinds := [], alts := [], laidByText := true, laidKinds := [.data, .data, .data, .data, .sentinel, .sentinel, .pinned], laidTests := true, laidLooks := .later }
def FnExactReadQuoteUptoCardSaid : Prop := Claim7.holds Tryd.pinned (.plain (OpenSpec.upto fnExactReadQuoteSpec)) fnExactReadQuoteUptoCard

/-- THE SECOND FORM's CARD OF 'laws.FnExactReadPolicy'. -/
def fnExactReadPolicyUptoCard : Claim7 := { stood := { row := fnExactReadPolicyUptoRow, standIns := [], harness := (true, "e71a68059fae73ec671ba405e784243a67dd4063abad2286e542d845735326a7"), looks := true }, kinds := [], alts := [], laidByText := true, laidKinds := [.data, .data, .data, .data, .sentinel, .sentinel, .pinned], laidTests := true, laidLooks := .later }
def FnExactReadPolicyUptoCardSaid : Prop := Claim7.holds Tryd.pinned (.plain (OpenSpec.upto fnExactReadPolicySpec)) fnExactReadPolicyUptoCard

/-- THE SECOND FORM's CARD OF 'laws.FnExactReadPeg'. -/
def fnExactReadPegUptoCard : Claim7 := { stood := { row := fnExactReadPegUptoRow, standIns := [], harness := (true, "e71a68059fae73ec671ba405e784243a67dd4063abad2286e542d845735326a7"), looks := true }, kinds := [], alts := [], laidByText := true, laidKinds := [.data, .data, .data, .data, .sentinel, .sentinel, .pinned], laidTests := true, laidLooks := .later }
def FnExactReadPegUptoCardSaid : Prop := Claim7.holds Tryd.pinned (.plain (OpenSpec.upto fnExactReadPegSpec)) fnExactReadPegUptoCard

/-- THE SECOND FORM's CARD OF 'laws.FnExactReadWork'. -/
def fnExactReadWorkUptoCard : Claim7 := { stood := { row := fnExactReadWorkUptoRow, standIns := [], harness := (true, "e71a68059fae73ec671ba405e784243a67dd4063abad2286e542d845735326a7"), looks := true }, kinds := [], alts := [], laidByText := true, laidKinds := [.data, .data, .data, .data, .sentinel, .sentinel, .pinned], laidTests := true, laidLooks := .later }
def FnExactReadWorkUptoCardSaid : Prop := Claim7.holds Tryd.pinned (.plain (OpenSpec.upto fnExactReadWorkSpec)) fnExactReadWorkUptoCard

/-- THE SECOND FORM's CARD OF 'laws.FnExactReadPot'. -/
def fnExactReadPotUptoCard : Claim7 := { stood := { row := fnExactReadPotUptoRow, standIns := [], harness := (true, "e71a68059fae73ec671ba405e784243a67dd4063abad2286e542d845735326a7"), looks := true }, kinds := [], alts := [], laidByText := true, laidKinds := [.data, .data, .data, .data, .sentinel, .sentinel, .pinned], laidTests := true, laidLooks := .later }
def FnExactReadPotUptoCardSaid : Prop := Claim7.holds Tryd.pinned (.plain (OpenSpec.upto fnExactReadPotSpec)) fnExactReadPotUptoCard

/-- THE SECOND FORM's CARD OF 'laws.FnExactReadPaper'. -/
def fnExactReadPaperUptoCard : Claim7 := { stood := { row := fnExactReadPaperUptoRow, standIns := [], harness := (true, "e71a68059fae73ec671ba405e784243a67dd4063abad2286e542d845735326a7"), looks := true }, kinds := [], alts := [], laidByText := true, laidKinds := [.data, .data, .data, .data, .sentinel, .sentinel, .pinned], laidTests := true, laidLooks := .later }
def FnExactReadPaperUptoCardSaid : Prop := Claim7.holds Tryd.pinned (.plain (OpenSpec.upto fnExactReadPaperSpec)) fnExactReadPaperUptoCard

/-- THE SECOND FORM's CARD OF 'laws.FnExactReadRental'. -/
def fnExactReadRentalUptoCard : Claim7 := { stood := { row := fnExactReadRentalUptoRow, standIns := [], harness := (true, "e71a68059fae73ec671ba405e784243a67dd4063abad2286e542d845735326a7"), looks := true }, kinds := [], alts := [], laidByText := true, laidKinds := [.data, .data, .data, .data, .sentinel, .sentinel, .pinned], laidTests := true, laidLooks := .later }
def FnExactReadRentalUptoCardSaid : Prop := Claim7.holds Tryd.pinned (.plain (OpenSpec.upto fnExactReadRentalSpec)) fnExactReadRentalUptoCard

/-- THE SECOND FORM's CARD OF 'laws.FnExactReadStep'. -/
def fnExactReadStepUptoCard : Claim7 := { stood := { row := fnExactReadStepUptoRow, standIns := [], harness := (true, "e71a68059fae73ec671ba405e784243a67dd4063abad2286e542d845735326a7"), looks := true }, kinds := [], alts := [], laidByText := true, laidKinds := [.data, .data, .data, .data, .sentinel, .sentinel, .pinned], laidTests := true, laidLooks := .later }
def FnExactReadStepUptoCardSaid : Prop := Claim7.holds Tryd.pinned (.plain (OpenSpec.upto fnExactReadStepSpec)) fnExactReadStepUptoCard

/-- THE SECOND FORM's CARD OF 'laws.FnExactReadCoat'. -/
def fnExactReadCoatUptoCard : Claim7 := { stood := { row := fnExactReadCoatUptoRow, standIns := [], harness := (true, "e71a68059fae73ec671ba405e784243a67dd4063abad2286e542d845735326a7"), looks := true }, kinds := [], alts := [], laidByText := true, laidKinds := [.data, .data, .data, .data, .sentinel, .sentinel, .pinned], laidTests := true, laidLooks := .later }
def FnExactReadCoatUptoCardSaid : Prop := Claim7.holds Tryd.pinned (.plain (OpenSpec.upto fnExactReadCoatSpec)) fnExactReadCoatUptoCard
end Rows
end Go.Proofs.YtdpgnlclcakhkaaDoor
