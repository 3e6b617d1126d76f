/-
  DERIVED. GIVEN WITH THE SEED: THE CARDS: each row of YtnbeomceiealdaaDoorRows.lean that lists a variable, with what it lists TIED to the program's text (the seventh form; the later family's looks); each row that meets fmt, with fmt's text TOLD by the authors' own Lean function (tested against real Go, not proved from fmt's source: count such statements apart). THE CARD IS WHAT COUNTS. Prove the row's statement (the work); the ties are given (YtnbeomceiealdaaDoorTie.lean); close each card by the builder's one call (the guide's Derived/Test/ToyasCard.lean, 'card_holds'). Laid BY PROGRAM, IN A SANDBOX (cutbox-door.mjs). By AI agents, Wed Nov 11 2026. No macro, syntax, notation, axiom, sorry.
-/
import Derived.Test.YtnbeomceiealdaaDoorRows
import GoSem.ClaimSeven
namespace Go.Proofs.YtnbeomceiealdaaDoor
namespace Rows

/-- THE TIED CARD OF 'laws.FnExactSaveBlocks'. -/
def fnExactSaveBlocksCard : Claim7 := { stood := { row := fnExactSaveBlocksRow, standIns := [], harness := (true, "1a482877089ac34dc3d87e24c37d0907dcc72ce3923f73a25b0b6f731f259c9a"), looks := false }, kinds := [], alts := [], laidByText := true, laidKinds := [.data, .data, .data], laidTests := true, laidLooks := .later }
def FnExactSaveBlocksCardSaid : Prop := Claim7.holds Tryd.pinned (.plain (OpenSpec.ofChange fnExactSaveBlocksSpec)) fnExactSaveBlocksCard

/-- THE TIED CARD OF 'laws.FnExactDamagedLines'. -/
def fnExactDamagedLinesCard : Claim7 := { stood := { row := fnExactDamagedLinesRow, standIns := [], harness := (true, "1a482877089ac34dc3d87e24c37d0907dcc72ce3923f73a25b0b6f731f259c9a"), looks := false }, kinds := [], alts := [], laidByText := true, laidKinds := [.data, .data, .data, .data, .pinned], laidTests := true, laidLooks := .later }
def FnExactDamagedLinesCardSaid : Prop := Claim7.holds Tryd.pinned (.plain (OpenSpec.ofChange fnExactDamagedLinesSpec)) fnExactDamagedLinesCard

/-- THE TIED CARD OF 'laws.FnExactSalvageBlocks'. -/
def fnExactSalvageBlocksCard : Claim7 := { stood := { row := fnExactSalvageBlocksRow, standIns := [], harness := (true, "1a482877089ac34dc3d87e24c37d0907dcc72ce3923f73a25b0b6f731f259c9a"), looks := false }, kinds := [], alts := [], laidByText := true, laidKinds := [.data, .data, .data, .data, .pinned], laidTests := true, laidLooks := .later }
def FnExactSalvageBlocksCardSaid : Prop := Claim7.holds Tryd.pinned (.plain (OpenSpec.ofChange fnExactSalvageBlocksSpec)) fnExactSalvageBlocksCard

/-- THE SECOND FORM's CARD OF 'laws.FnExactSaveBlocks'. -/
def fnExactSaveBlocksUptoCard : Claim7 := { stood := { row := fnExactSaveBlocksUptoRow, standIns := [], harness := (true, "1a482877089ac34dc3d87e24c37d0907dcc72ce3923f73a25b0b6f731f259c9a"), looks := false }, kinds := [], alts := [], laidByText := true, laidKinds := [.data, .data, .data], laidTests := true, laidLooks := .later }
def FnExactSaveBlocksUptoCardSaid : Prop := Claim7.holds Tryd.pinned (.plain (OpenSpec.upto fnExactSaveBlocksSpec)) fnExactSaveBlocksUptoCard

/-- THE SECOND FORM's CARD OF 'laws.FnExactDamagedLines'. -/
def fnExactDamagedLinesUptoCard : Claim7 := { stood := { row := fnExactDamagedLinesUptoRow, standIns := [], harness := (true, "1a482877089ac34dc3d87e24c37d0907dcc72ce3923f73a25b0b6f731f259c9a"), looks := false }, kinds := [], alts := [], laidByText := true, laidKinds := [.data, .data, .data, .data, .pinned], laidTests := true, laidLooks := .later }
def FnExactDamagedLinesUptoCardSaid : Prop := Claim7.holds Tryd.pinned (.plain (OpenSpec.upto fnExactDamagedLinesSpec)) fnExactDamagedLinesUptoCard

/-- THE SECOND FORM's CARD OF 'laws.FnExactSalvageBlocks'. -/
def fnExactSalvageBlocksUptoCard : Claim7 := { stood := { row := fnExactSalvageBlocksUptoRow, standIns := [], harness := (true, "1a482877089ac34dc3d87e24c37d0907dcc72ce3923f73a25b0b6f731f259c9a"), looks := false }, kinds := [], alts := [], laidByText := true, laidKinds := [.data, .data, .data, .data, .pinned], laidTests := true, laidLooks := .later }
def FnExactSalvageBlocksUptoCardSaid : Prop := Claim7.holds Tryd.pinned (.plain (OpenSpec.upto fnExactSalvageBlocksSpec)) fnExactSalvageBlocksUptoCard
end Rows
end Go.Proofs.YtnbeomceiealdaaDoor
