/- Reports: lines, and whether they are a report. -/
import Derived.Test.YtfabijhilfjkcaaRows
import Derived.Test.YtfabijhilfjkcaaMem
import Derived.Test.YtfabijhilfjkcaaBasic
import Derived.Test.YtfabijhilfjkcaaConvS
namespace Go.Proofs.Ytfabijhilfjkcaa
set_option linter.unusedVariables false
set_option linter.unusedSimpArgs false
set_option linter.unusedSectionVars false
open Go.RowKit

def chB (c : UInt8) : Bool := inB (c.toNat : Int) 32 126
def chsB (l : List UInt8) : Bool := l.all chB
def lineB (s : ByteArray) : Bool := chsB s.data.toList && decide ((s.size : Int) ≤ 100)
def linesB (ss : List ByteArray) : Bool := ss.all lineB
def repB (ss : List ByteArray) : Bool := linesB ss && decide ((ss.length : Int) ≤ 200)

theorem chsB_cons (c : UInt8) (r : List UInt8) : chsB (c :: r) = (chB c && chsB r) := rfl
theorem linesB_cons (s : ByteArray) (r : List ByteArray) : linesB (s :: r) = (lineB s && linesB r) := rfl
theorem byte_wrap (c : UInt8) : wrap64 (c.toNat : Int) = c.toNat := IntWalk.wrap64_in _ (by have := c.toNat_lt; omega)
theorem get_byte (s : ByteArray) (k : Nat) (h : k < s.size) : s.data.toList[k]? = some s[k] := by
  rw [List.getElem?_eq_getElem (by simpa using h)]; rfl

end Go.Proofs.Ytfabijhilfjkcaa
