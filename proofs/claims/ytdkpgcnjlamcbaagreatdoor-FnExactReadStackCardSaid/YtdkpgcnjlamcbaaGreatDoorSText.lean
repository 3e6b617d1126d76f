/- The reference's text of a list of numbers that are not negative. -/
import Derived.Test.YtdkpgcnjlamcbaaGreatDoorRows
import Derived.Test.YtdkpgcnjlamcbaaGreatDoorDec
import Derived.Test.YtdkpgcnjlamcbaaGreatDoorListTx
namespace Go.Proofs.YtdkpgcnjlamcbaaGreatDoor
set_option linter.unusedVariables false
set_option linter.unusedSimpArgs false
set_option linter.unusedSectionVars false
open Go.RowKit Go.Lib

def textTo (ns : List Int) (k : Nat) : List UInt8 := joinC 44 ((ns.take k).map itoa)
theorem joinC_snoc (c : UInt8) (x : List UInt8) : ∀ {l : List (List UInt8)}, l ≠ [] → joinC c (l ++ [x]) = joinC c l ++ c :: x
  | [], h => absurd rfl h
  | [a], _ => rfl
  | a :: b :: r, _ => by
    rw [List.cons_append, joinC_cons c a (by simp), joinC_snoc c x (l := b :: r) (by simp), joinC_cons c a (by simp)]
    simp
theorem textTo_zero (ns : List Int) : textTo ns 0 = [] := by simp [textTo, joinC]
theorem textTo_one {ns : List Int} {x : Int} (hx : ns[0]? = some x) : textTo ns 1 = itoa x := by
  unfold textTo
  rw [List.take_add_one, hx]
  simp [joinC]
theorem textTo_more {ns : List Int} {k : Nat} {x : Int} (hk : 0 < k) (hx : ns[k]? = some x) : textTo ns (k + 1) = textTo ns k ++ 44 :: itoa x := by
  unfold textTo
  rw [List.take_add_one, hx, List.map_append]
  refine joinC_snoc 44 (itoa x) (fun h => ?_)
  have hl := congrArg List.length h
  have := (List.getElem?_eq_some_iff.1 hx).1
  rw [List.length_map, List.length_take, List.length_nil] at hl
  omega
theorem textTo_all {ns : List Int} (h : ns ≠ []) : textTo ns ns.length = textL ns := by
  unfold textTo textL
  rw [List.take_length, if_neg h]

theorem ofL_add (a b : List UInt8) : ofL a ++ ofL b = ofL (a ++ b) := by
  have h : ∀ {x y : ByteArray}, x.data.toList = y.data.toList → x = y := fun {x y} h => by rw [← ofL_self x, ← ofL_self y, h]
  apply h
  rw [ba_app, ofL_data, ofL_data, ofL_data]
end Go.Proofs.YtdkpgcnjlamcbaaGreatDoor
