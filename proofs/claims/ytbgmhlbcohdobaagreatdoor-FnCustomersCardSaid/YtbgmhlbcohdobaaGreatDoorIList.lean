/- The program's reading of a list of numbers, and of a name before one. -/
import Derived.Test.YtbgmhlbcohdobaaGreatDoorRows
import Derived.Test.YtbgmhlbcohdobaaGreatDoorIReads
import Derived.Test.YtbgmhlbcohdobaaGreatDoorSList
import Derived.Test.YtbgmhlbcohdobaaGreatDoorTouch
namespace Go.Proofs.YtbgmhlbcohdobaaGreatDoor
set_option linter.unusedVariables false
set_option linter.unusedSimpArgs false
set_option linter.unusedSectionVars false
open Go.RowKit

end Go.Proofs.YtbgmhlbcohdobaaGreatDoor
