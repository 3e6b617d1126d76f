/- Coat: a struct by value with a list inside. Printed by a program of mine. -/
import Derived.Test.YtbdjhecbingcjaaGreatDoorRows
import Derived.Test.YtbdjhecbingcjaaGreatDoorMem
import Derived.Test.YtbdjhecbingcjaaGreatDoorMarks
import Derived.Test.YtbdjhecbingcjaaGreatDoorTouch
namespace Go.Proofs.YtbdjhecbingcjaaGreatDoor
set_option linter.unusedVariables false
set_option linter.unusedSimpArgs false
set_option linter.unusedSectionVars false
open Go.RowKit

structure DCoat where
  fId : ByteArray
  fDays : Int
  fCover : Int
  fColour : List Int
/-- what reading answers: the value, its list a new row -/
def RetCoat (x : DCoat) (b : Bool) (w : World) (e : Ending) (w' : World) : Prop :=
  ∃ (y : DCoat), Hid (y = x) ∧ ∃ (A : Option Addr) (n c : Nat), y.fColour.length = n ∧ n ≤ 1048577 ∧ w'.ownsRow w.heap.size 2 intE.k (.slice A n c) n (y.fColour.flatMap intE.cells) ∧
    e = .returned (.tuple #[.agg #[.string y.fId, .int .i64 y.fDays, .int .i64 y.fCover, .slice A n c], .bool b]) ∧ Below w.heap.size w w'

end Go.Proofs.YtbdjhecbingcjaaGreatDoor
