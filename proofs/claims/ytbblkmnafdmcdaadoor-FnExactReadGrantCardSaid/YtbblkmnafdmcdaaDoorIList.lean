/- The program's reading of a list of numbers, and of a name before one. -/
import Derived.Test.YtbblkmnafdmcdaaDoorRows
import Derived.Test.YtbblkmnafdmcdaaDoorIReads
import Derived.Test.YtbblkmnafdmcdaaDoorSList
import Derived.Test.YtbblkmnafdmcdaaDoorTouch
namespace Go.Proofs.YtbblkmnafdmcdaaDoor
set_option linter.unusedVariables false
set_option linter.unusedSimpArgs false
set_option linter.unusedSectionVars false
open Go.RowKit

end Go.Proofs.YtbblkmnafdmcdaaDoor
