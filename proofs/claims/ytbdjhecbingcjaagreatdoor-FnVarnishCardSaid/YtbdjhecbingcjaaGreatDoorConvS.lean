/- The law files' helpers on lists of strings: size, copy, equality, marks. -/
import Derived.Test.YtbdjhecbingcjaaGreatDoorRows
import Derived.Test.YtbdjhecbingcjaaGreatDoorMem
namespace Go.Proofs.YtbdjhecbingcjaaGreatDoor
set_option linter.unusedVariables false
set_option linter.unusedSimpArgs false
set_option linter.unusedSectionVars false
open Go.RowKit

def sumS : List ByteArray → Int
  | [] => 0
  | s :: r => s.size + sumS r

/-- What a size helper hands back: -1, or what is left. -/
def SzR (left tot : Int) (w : World) (e : Ending) (w' : World) : Prop := ∃ r : Int, e = .returned (.int .i64 r) ∧ w = w' ∧ -1 ≤ r ∧ (0 ≤ r → r + tot = left)
theorem SzR.neg {left tot : Int} {w : World} : SzR left tot w (.returned (.int .i64 (-1))) w := ⟨-1, rfl, rfl, by omega, by omega⟩
theorem SzR.ok {left tot r : Int} {w : World} (h0 : 0 ≤ r) (h : r + tot = left) : SzR left tot w (.returned (.int .i64 r)) w := ⟨r, rfl, rfl, by omega, fun _ => h⟩

/-- as SzR, where memory may have been made -/
def SzB (left tot : Int) (w : World) (e : Ending) (w' : World) : Prop := ∃ r : Int, e = .returned (.int .i64 r) ∧ Below w.heap.size w w' ∧ -1 ≤ r ∧ (0 ≤ r → r + tot = left)
theorem SzB.neg {left tot : Int} {w w' : World} (hb : Below w.heap.size w w') : SzB left tot w (.returned (.int .i64 (-1))) w' := ⟨-1, rfl, hb, by omega, by omega⟩
theorem SzB.ok {left tot r : Int} {w w' : World} (hb : Below w.heap.size w w') (h0 : 0 ≤ r) (h : r + tot = left) : SzB left tot w (.returned (.int .i64 r)) w' := ⟨r, rfl, hb, by omega, fun _ => h⟩

theorem sumS_nonneg (l : List ByteArray) : 0 ≤ sumS l := by
  induction l with
  | nil => simp [sumS]
  | cons s r ih => simp only [sumS]; omega
theorem sumS_mem {l : List ByteArray} {s : ByteArray} (h : s ∈ l) : (s.size : Int) ≤ sumS l := by
  induction l with
  | nil => cases h
  | cons x r ih =>
    have h0 := sumS_nonneg r
    simp only [sumS]
    cases List.mem_cons.1 h with
    | inl e => subst e; omega
    | inr e => have := ih e; omega

/-- A list of the call's own. -/
def RetOwn {α : Type} (E : Enc α) (et : TypeId) (l : List α) (n : Nat) (w : World) (e : Ending) (w' : World) : Prop :=
  ∃ A c, e = .returned (.slice A n c) ∧ l.length = n ∧ w'.ownsRow w.heap.size et E.k (.slice A n c) n (l.flatMap E.cells) ∧ Below w.heap.size w w'

/-- It answers b, and nothing old has turned. -/
def RetB (b : Bool) (w : World) (e : Ending) (w' : World) : Prop := e = .returned (.bool b) ∧ Below w.heap.size w w'

/-- the mark of a number: whatever text the helper gives -/
def mtDigits : Nat → Nat → List UInt8
  | 0, _ => []
  | f + 1, k => if k = 0 then [] else mtDigits f (k / 10) ++ [UInt8.ofNat (48 + k % 10)]
theorem mtDigits_zero (f : Nat) : mtDigits f 0 = [] := by cases f <;> rfl
theorem mtDigits_step (f q : Nat) (h : 0 < q) : mtDigits (f + 1) q = mtDigits f (q / 10) ++ [UInt8.ofNat (48 + q % 10)] := by rw [mtDigits, if_neg (by omega)]
def mt (k : Nat) : ByteArray := if k = 0 then ⟨#[109, 48]⟩ else ⟨(109 :: mtDigits k k).toArray⟩


end Go.Proofs.YtbdjhecbingcjaaGreatDoor
