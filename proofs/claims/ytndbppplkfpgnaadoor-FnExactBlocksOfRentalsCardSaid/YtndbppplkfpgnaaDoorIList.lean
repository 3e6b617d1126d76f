/- The program's reading of a list of numbers, and of a name before one. -/
import Derived.Test.YtndbppplkfpgnaaDoorRows
import Derived.Test.YtndbppplkfpgnaaDoorIReads
import Derived.Test.YtndbppplkfpgnaaDoorSList
import Derived.Test.YtndbppplkfpgnaaDoorTouch
namespace Go.Proofs.YtndbppplkfpgnaaDoor
set_option linter.unusedVariables false
set_option linter.unusedSimpArgs false
set_option linter.unusedSectionVars false
open Go.RowKit

end Go.Proofs.YtndbppplkfpgnaaDoor
