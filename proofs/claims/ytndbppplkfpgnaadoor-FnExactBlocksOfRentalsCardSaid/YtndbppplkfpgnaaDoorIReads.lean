/- The program's reading: a number, a list of numbers, a name before it; over the library's contracts. -/
import Derived.Test.YtndbppplkfpgnaaDoorRows
import Derived.Test.YtndbppplkfpgnaaDoorShelf
import Derived.Test.YtndbppplkfpgnaaDoorSNum
import Derived.Test.YtndbppplkfpgnaaDoorLibW
import Derived.Lib.AppendIntMem
import Derived.Lib.AtoiErrMem
namespace Go.Proofs.YtndbppplkfpgnaaDoor
set_option linter.unusedVariables false
set_option linter.unusedSimpArgs false
set_option linter.unusedSectionVars false
open Go.RowKit

theorem i_Decimal (n : Int) (w : World) (h : -9223372036854775808 ≤ n ∧ n ≤ 9223372036854775807) (hL : LibW w) :
    Calls Tryd.prog 41 #[.int .i64 n] w fun e w' => e = .returned (.string (ofL (Lib.itoa n))) ∧ Below w.heap.size w w' := by
  go_enter Tryd.func41, Tryd.ntmps41
  go_wp2_with fail
  refine (Tryd.strconv_FormatInt_10 n h.1 h.2 _ hL.tab).mono ?_
  rintro e w1 ⟨rfl, k, os, rfl⟩
  go_wp2
  go_ret
  exact ⟨rfl, Lib.below_grow _ _ (Nat.le_refl _) _ _⟩

end Go.Proofs.YtndbppplkfpgnaaDoor
