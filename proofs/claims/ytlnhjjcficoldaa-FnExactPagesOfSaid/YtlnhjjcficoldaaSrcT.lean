/- What is not frozen stays so. -/
import Derived.Test.YtlnhjjcficoldaaRows
import Derived.Test.YtlnhjjcficoldaaMem
import Derived.Test.YtlnhjjcficoldaaTouch
import Derived.Test.YtlnhjjcficoldaaResG
namespace Go.Proofs.Ytlnhjjcficoldaa
set_option linter.unusedVariables false
set_option linter.unusedSimpArgs false
set_option linter.unusedSectionVars false
open Go.RowKit
theorem free_touch {F : Nat → Prop} {w w' : World} {p : Addr} (h : w.frozen? p = false) (hp : p.block < w.heap.size) (hF : ¬ F p.block) (ht : Touch F w w') : w'.frozen? p = false := by
  unfold World.frozen? at *
  rw [ht.block p.block hp hF]
  exact h
end Go.Proofs.Ytlnhjjcficoldaa
