/- A start that fits the rows over one string which list the library's variables. -/
import Derived.Test.YtdpgnlclcakhkaaDoorRows
import Derived.LaidMore
import Derived.Lay
import Derived.MakeChecks
import Derived.ProofKit
namespace Go.Proofs.YtdpgnlclcakhkaaDoor
set_option linter.unusedVariables false
set_option linter.unusedSimpArgs false
set_option linter.unusedSectionVars false
open Go.ChangeShapes Go.WideShapes Go.ChangeAt Go.RowKit

set_option maxRecDepth 100000
theorem wit_shaped (os : Os) : ((World.laidAll Tryd.prog os Rows.fnExactReadRibRow.laid).forCall (fun _ _ => 0) ⟨#[], #[.string ⟨#[]⟩], []⟩).Shaped Tryd.prog :=
  World.shaped_of_ZipB (by kernel_rfl) (by kernel_rfl)
theorem wit_met (os : Os) : laidMetH Tryd.prog Rows.fnExactReadRibRow.laid ((World.laidAll Tryd.prog os Rows.fnExactReadRibRow.laid).forCall (fun _ _ => 0) ⟨#[], #[.string ⟨#[]⟩], []⟩).memory := by
  rw [MakeChecks.laidMetH_plain _ _ _ (by kernel_rfl)]
  exact laidMet_laidAll _ (by kernel_rfl) (by kernel_rfl)
end Go.Proofs.YtdpgnlclcakhkaaDoor
