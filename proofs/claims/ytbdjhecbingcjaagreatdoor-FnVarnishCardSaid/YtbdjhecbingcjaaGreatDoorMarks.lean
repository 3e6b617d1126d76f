/- The law files' marks on lists of strings and numbers. -/
import Derived.Test.YtbdjhecbingcjaaGreatDoorRows
import Derived.Test.YtbdjhecbingcjaaGreatDoorMem
import Derived.Test.YtbdjhecbingcjaaGreatDoorConvS
import Derived.Deep.RegionHeld3
namespace Go.Proofs.YtbdjhecbingcjaaGreatDoor
set_option linter.unusedVariables false
set_option linter.unusedSimpArgs false
set_option linter.unusedSectionVars false
open Go.RowKit

/-- what marking answers: the next number; the list holds the marks; only F has been written -/
def MarkR {α : Type} (E : Enc α) (et : TypeId) (F : Nat → Prop) (A : Option Addr) (n c : Nat) (l : List α) (r : Int) (w : World) (e : Ending) (w' : World) : Prop :=
  e = .returned (.int .i64 r) ∧ OL E et F w' A n c l ∧ Touch F w w'
/-- what holding answers -/
def HeldR (r : Int) (w : World) (e : Ending) (w' : World) : Prop := e = .returned (.int .i64 r) ∧ Below w.heap.size w w'

def markLS (n k : Nat) : List ByteArray := (List.range n).map fun i => mt (k + i)
theorem markLS_get (n k i : Nat) (h : i < n) : (markLS n k)[i]? = some (mt (k + i)) := by simp [markLS, h]
theorem markLS_len (n k : Nat) : (markLS n k).length = n := by simp [markLS]
def markLI (n k : Nat) : List Int := (List.range n).map fun i => ((k + i : Nat) : Int)
theorem markLI_get (n k i : Nat) (h : i < n) : (markLI n k)[i]? = some ((k + i : Nat) : Int) := by simp [markLI, h]
theorem markLI_len (n k : Nat) : (markLI n k).length = n := by simp [markLI]

end Go.Proofs.YtbdjhecbingcjaaGreatDoor
