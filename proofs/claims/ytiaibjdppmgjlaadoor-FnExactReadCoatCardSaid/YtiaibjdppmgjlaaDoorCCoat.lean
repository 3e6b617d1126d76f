/- Coat: a struct by value with a list inside. Printed by a program of mine. -/
import Derived.Test.YtiaibjdppmgjlaaDoorRows
import Derived.Test.YtiaibjdppmgjlaaDoorMem
import Derived.Test.YtiaibjdppmgjlaaDoorMarks
import Derived.Test.YtiaibjdppmgjlaaDoorTouch
namespace Go.Proofs.YtiaibjdppmgjlaaDoor
set_option linter.unusedVariables false
set_option linter.unusedSimpArgs false
set_option linter.unusedSectionVars false
open Go.RowKit

structure DCoat where
  fId : ByteArray
  fDays : Int
  fCover : Int
  fColour : List Int
/-- what reading answers: the value, its list a new row -/
def RetCoat (x : DCoat) (b : Bool) (w : World) (e : Ending) (w' : World) : Prop :=
  ∃ (y : DCoat), Hid (y = x) ∧ ∃ (A : Option Addr) (n c : Nat), y.fColour.length = n ∧ n ≤ 1048577 ∧ w'.ownsRow w.heap.size 2 intE.k (.slice A n c) n (y.fColour.flatMap intE.cells) ∧
    e = .returned (.tuple #[.agg #[.string y.fId, .int .i64 y.fDays, .int .i64 y.fCover, .slice A n c], .bool b]) ∧ Below w.heap.size w w'

set_option maxHeartbeats 400000 in
theorem l_eqCoat (x : DCoat) (A A' : Option Addr) (n c c' : Nat) (w : World) (hr : Rd intE w A n x.fColour) (hr' : Rd intE w A' n x.fColour) (hn : n ≤ maxLen) :
    Calls Tryd.prog 12 #[.agg #[.string x.fId, .int .i64 x.fDays, .int .i64 x.fCover, .slice A n c], .agg #[.string x.fId, .int .i64 x.fDays, .int .i64 x.fCover, .slice A' n c']] w (RetB true w) := by
  have h1 : Below w.heap.size w (w.alloc (.cells #[.string x.fId, .int .i64 x.fDays, .int .i64 x.fCover, .slice A n c] 31)) := (Below.refl _ _).alloc (Nat.le_refl _) _
  have h2 := h1.alloc h1.size (.cells #[.string x.fId, .int .i64 x.fDays, .int .i64 x.fCover, .slice A' n c'] 31)
  go_enter Tryd.func12, Tryd.ntmps12
  go_wp2_with fail
  refine (l_eqInt64S A A' n c c' x.fColour _ (hr.below h2) (hr'.below h2) hn).mono ?_
  rintro e w1 ⟨rfl, hb⟩
  have hB := h2.trans (hb.mono h2.size)
  go_wp2
  go_ret
  exact ⟨rfl, hB⟩

set_option maxHeartbeats 400000 in
theorem l_markCoat (x : DCoat) (F : Nat → Prop) (A : Option Addr) (n c : Nat) (l : List Int) (k0 : Int) (w : World) (hO : OL intE 2 F w A n c l) (hn : n ≤ 549755813888) (h0 : 0 ≤ k0) (h1 : k0 ≤ 549755813888) :
    Calls Tryd.prog 13 #[.agg #[.string x.fId, .int .i64 x.fDays, .int .i64 x.fCover, .slice A n c], .int .i64 k0] w (MarkR intE 2 F A n c (markLI n k0.toNat) (k0 + n) w) := by
  have h2 : Below w.heap.size w (w.alloc (.cells #[.string x.fId, .int .i64 x.fDays, .int .i64 x.fCover, .slice A n c] 31)) := (Below.refl _ _).alloc (Nat.le_refl _) _
  have ht0 : Touch F w (w.alloc (.cells #[.string x.fId, .int .i64 x.fDays, .int .i64 x.fCover, .slice A n c] 31)) := Touch.alloc w _
  go_enter Tryd.func13, Tryd.ntmps13
  go_wp2_with fail
  refine (l_markInt64S F A n c l k0 _ (hO.below h2) hn h0 h1).mono ?_
  rintro e w1 ⟨rfl, hO1, ht⟩
  have hT := ht0.trans ht
  go_wp2
  go_ret
  exact ⟨rfl, hO1, hT⟩

set_option maxHeartbeats 400000 in
theorem l_heldCoat (x : DCoat) (F : Nat → Prop) (A : Option Addr) (n c : Nat) (k0 : Int) (w : World) (hO : OL intE 2 F w A n c (markLI n k0.toNat)) (hn : n ≤ 549755813888) (h0 : 0 ≤ k0) (h1 : k0 ≤ 549755813888) :
    Calls Tryd.prog 14 #[.agg #[.string x.fId, .int .i64 x.fDays, .int .i64 x.fCover, .slice A n c], .int .i64 k0] w (HeldR (k0 + n) w) := by
  have h2 : Below w.heap.size w (w.alloc (.cells #[.string x.fId, .int .i64 x.fDays, .int .i64 x.fCover, .slice A n c] 31)) := (Below.refl _ _).alloc (Nat.le_refl _) _
  go_enter Tryd.func14, Tryd.ntmps14
  go_wp2_with fail
  refine (l_heldInt64S F A n c k0 _ (hO.below h2) hn h0 h1).mono ?_
  rintro e w1 ⟨rfl, hb⟩
  have hB := h2.trans (hb.mono h2.size)
  have hk : ¬ (k0 + (n : Int) < 0) := by omega
  go_wp2
  go_ret
  exact ⟨rfl, hB⟩

end Go.Proofs.YtiaibjdppmgjlaaDoor
