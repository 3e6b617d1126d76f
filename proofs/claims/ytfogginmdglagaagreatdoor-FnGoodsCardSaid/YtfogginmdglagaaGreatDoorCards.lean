/-
  DERIVED. GIVEN WITH THE SEED: THE CARDS: each row of YtfogginmdglagaaGreatDoorRows.lean that lists a variable, with what it lists TIED to the program's text (the seventh form; the later family's looks); each row that meets fmt, with fmt's text TOLD by the authors' own Lean function (tested against real Go, not proved from fmt's source: count such statements apart). THE CARD IS WHAT COUNTS. Prove the row's statement (the work); the ties are given (YtfogginmdglagaaGreatDoorTie.lean); close each card by the builder's one call (the guide's Derived/Test/ToyasCard.lean, 'card_holds'). Laid BY PROGRAM, IN A SANDBOX (cutbox-door.mjs). By AI agents, Wed Nov 11 2026. No macro, syntax, notation, axiom, sorry.
-/
import Derived.Test.YtfogginmdglagaaGreatDoorRows
import GoSem.ClaimSeven
namespace Go.Proofs.YtfogginmdglagaaGreatDoor
namespace Rows

/-- THE TIED CARD OF 'laws.FnGoods'. -/
def fnGoodsCard : Claim7 := { stood := { row := fnGoodsRow, standIns := [], harness := (true, "3537bf64ff44767de87f4bcf8bf64d2b543692de2bb6d3a809ca073ab9596e0f"), looks := true }, kinds := [], alts := [], laidByText := true, laidKinds := [.data, .data, .data, .data, .sentinel, .sentinel, .pinned], laidTests := true, laidLooks := .later }
def FnGoodsCardSaid : Prop := Claim7.holds Tryz.pinned (.plain (OpenSpec.ofChange fnGoodsSpec)) fnGoodsCard

/-- THE SECOND FORM's CARD OF 'laws.FnGoods'. -/
def fnGoodsUptoCard : Claim7 := { stood := { row := fnGoodsUptoRow, standIns := [], harness := (true, "3537bf64ff44767de87f4bcf8bf64d2b543692de2bb6d3a809ca073ab9596e0f"), looks := true }, kinds := [], alts := [], laidByText := true, laidKinds := [.data, .data, .data, .data, .sentinel, .sentinel, .pinned], laidTests := true, laidLooks := .later }
def FnGoodsUptoCardSaid : Prop := Claim7.holds Tryz.pinned (.plain (OpenSpec.upto fnGoodsSpec)) fnGoodsUptoCard
end Rows
end Go.Proofs.YtfogginmdglagaaGreatDoor
