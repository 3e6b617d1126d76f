/-
  DERIVED. GIVEN WITH THE SEED: THE CARDS: each row of YtbblkmnafdmcdaaDoorRows.lean that lists a variable, with what it lists TIED to the program's text (the seventh form; the later family's looks); each row that meets fmt, with fmt's text TOLD by the authors' own Lean function (tested against real Go, not proved from fmt's source: count such statements apart). THE CARD IS WHAT COUNTS. Prove the row's statement (the work); the ties are given (YtbblkmnafdmcdaaDoorTie.lean); close each card by the builder's one call (the guide's Derived/Test/ToyasCard.lean, 'card_holds'). Laid BY PROGRAM, IN A SANDBOX (cutbox-door.mjs). By AI agents, Wed Nov 11 2026. No macro, syntax, notation, axiom, sorry.
-/
import Derived.Test.YtbblkmnafdmcdaaDoorRows
import GoSem.ClaimSeven
namespace Go.Proofs.YtbblkmnafdmcdaaDoor
namespace Rows

/-- THE TIED CARD OF 'laws.FnExactReadReport'. -/
def fnExactReadReportCard : Claim7 := { stood := { row := fnExactReadReportRow, standIns := [], harness := (true, "c6f25a0064c63793b80a89dc529fa8f27538e41278c5541725e78c7757e537eb"), looks := false }, kinds := [], alts := [], laidByText := true, laidKinds := [.data, .pinned], laidTests := true, laidLooks := .later }
def FnExactReadReportCardSaid : Prop := Claim7.holds Tryd.pinned (.plain (OpenSpec.ofChange fnExactReadReportSpec)) fnExactReadReportCard

/-- THE TIED CARD OF 'laws.FnExactReadGrant'. -/
def fnExactReadGrantCard : Claim7 := { stood := { row := fnExactReadGrantRow, standIns := [], harness := (true, "c6f25a0064c63793b80a89dc529fa8f27538e41278c5541725e78c7757e537eb"), looks := false }, kinds := [], alts := [], laidByText := true, laidKinds := [.data, .pinned], laidTests := true, laidLooks := .later }
def FnExactReadGrantCardSaid : Prop := Claim7.holds Tryd.pinned (.plain (OpenSpec.ofChange fnExactReadGrantSpec)) fnExactReadGrantCard

/-- THE SECOND FORM's CARD OF 'laws.FnExactReadReport'. -/
def fnExactReadReportUptoCard : Claim7 := { stood := { row := fnExactReadReportUptoRow, standIns := [], harness := (true, "c6f25a0064c63793b80a89dc529fa8f27538e41278c5541725e78c7757e537eb"), looks := false }, kinds := [], alts := [], laidByText := true, laidKinds := [.data, .pinned], laidTests := true, laidLooks := .later }
def FnExactReadReportUptoCardSaid : Prop := Claim7.holds Tryd.pinned (.plain (OpenSpec.upto fnExactReadReportSpec)) fnExactReadReportUptoCard

/-- THE SECOND FORM's CARD OF 'laws.FnExactReadGrant'. -/
def fnExactReadGrantUptoCard : Claim7 := { stood := { row := fnExactReadGrantUptoRow, standIns := [], harness := (true, "c6f25a0064c63793b80a89dc529fa8f27538e41278c5541725e78c7757e537eb"), looks := false }, kinds := [], alts := [], laidByText := true, laidKinds := [.data, .pinned], laidTests := true, laidLooks := .later }
def FnExactReadGrantUptoCardSaid : Prop := Claim7.holds Tryd.pinned (.plain (OpenSpec.upto fnExactReadGrantSpec)) fnExactReadGrantUptoCard
end Rows
end Go.Proofs.YtbblkmnafdmcdaaDoor
