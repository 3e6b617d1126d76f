/- The reference's reading: a text cut at a byte, a number, a list of numbers. -/
import Derived.Test.YtbdjhecbingcjaaGreatDoorRows
import Derived.Test.YtbdjhecbingcjaaGreatDoorNames
import Derived.Test.YtbdjhecbingcjaaGreatDoorGrow
import Derived.Test.YtbdjhecbingcjaaGreatDoorArr
import Derived.Test.YtbdjhecbingcjaaGreatDoorNums
namespace Go.Proofs.YtbdjhecbingcjaaGreatDoor
set_option linter.unusedVariables false
set_option linter.unusedSimpArgs false
set_option linter.unusedSectionVars false
open Go.RowKit

theorem data_ext {s : ByteArray} {a b : Nat} (h : b ≤ s.size) : (s.extract a b).data.toList = (s.data.toList.drop a).take (b - a) := by
  rw [Lib.extract_data]
theorem u8_eq {a b : UInt8} (h : a = b) : ((a.toNat : Int) == (b.toNat : Int)) = true := by rw [h]; simp
theorem u8_ne {a b : UInt8} (h : a ≠ b) : ((a.toNat : Int) == (b.toNat : Int)) = false := by
  rw [beq_eq_false_iff_ne]
  intro e
  exact h (UInt8.toNat_inj.1 (by omega))

end Go.Proofs.YtbdjhecbingcjaaGreatDoor
