/- The walk of the law on ValidBlock, printed by a program of mine off the law's text. -/
import Derived.Test.YtnbeomceiealdaaRows
import Derived.Test.YtnbeomceiealdaaBlocks
import Derived.Test.YtnbeomceiealdaaCBlock
import Derived.Test.YtnbeomceiealdaaMarks
namespace Go.Proofs.Ytnbeomceiealdaa
set_option linter.unusedVariables false
set_option linter.unusedSimpArgs false
set_option linter.unusedSectionVars false
open Go.RowKit

set_option maxHeartbeats 4000000 in
theorem w_ValidBlock (a0 : DBlock) (w : World) (wf0 : a0.good) :
    Calls Try.prog 3 #[DBlock.val a0] w (RetB true w) := by
  unfold DBlock.val
  have hB := Below.refl w.heap.size w
  have R0 := range_new w #[.string a0.fKind, .string a0.fName, .string a0.fText] 23
  have hx0_0 : (w.alloc (.cells #[.string a0.fKind, .string a0.fName, .string a0.fText] 23)).cell? ⟨w.heap.size, 0, none⟩ = some (.string a0.fKind) := R0 0 _ rfl
  have hx0_1 : (w.alloc (.cells #[.string a0.fKind, .string a0.fName, .string a0.fText] 23)).cell? ⟨w.heap.size, 1, none⟩ = some (.string a0.fName) := R0 1 _ rfl
  have hx0_2 : (w.alloc (.cells #[.string a0.fKind, .string a0.fName, .string a0.fText] 23)).cell? ⟨w.heap.size, 2, none⟩ = some (.string a0.fText) := R0 2 _ rfl
  clear R0
  replace hB : Below w.heap.size w (w.alloc (.cells #[.string a0.fKind, .string a0.fName, .string a0.fText] 23)) := by (repeat (first | exact Below.refl _ _ | assumption | refine Below.drew ?_ | refine Below.alloc ?_ (by first | omega | (simp; done) | (simp; omega) | exact Below.size (by assumption)) _ | refine Below.setCell ?_ (by first | omega | (simp; done) | (simp; omega)) _))
  have z0 : w.heap.size + 1 ≤ (w.alloc (.cells #[.string a0.fKind, .string a0.fName, .string a0.fText] 23)).heap.size := by simp
  have HX0_0 := Lib.hid hx0_0; clear hx0_0
  have HX0_1 := Lib.hid hx0_1; clear hx0_1
  have HX0_2 := Lib.hid hx0_2; clear hx0_2
  go_enter Try.func3, Try.ntmps3
  go_wp2_with fail
  refine (l_szBlock a0 _ _ wf0 (by omega) (by omega)).mono ?_
  rintro e w1 ⟨r0, rfl, hb, hlo0, hq0⟩
  replace hB := hB.trans (hb.mono hB.size)
  have z1 := hb.size
  have hx0_0 := cell_later hb HX0_0.out; clear HX0_0
  have hx0_1 := cell_later hb HX0_1.out; clear HX0_1
  have hx0_2 := cell_later hb HX0_2.out; clear HX0_2
  clear hb
  by_cases hneg0 : r0 < 0
  · obtain rfl : r0 = -1 := by omega
    clear hq0
    go_wp2
    go_ret
    exact ⟨rfl, hB⟩
  have hp0 := hq0 (by omega)
  have hpp0 := DBlock.sz_nonneg a0
  have hz0 : DBlock.sz a0 ≤ 1048576 := by omega
  have hr0' : r0 ≤ 1048576 := by omega
  clear hp0 hpp0 hq0 hlo0
  go_wp2_with fail
  refine (l_toBlock a0 _).mono ?_
  rintro e w2 ⟨rfl, hb⟩
  replace hB := hB.trans (hb.mono hB.size)
  have z2 := hb.size
  replace hx0_0 := cell_later hb hx0_0
  replace hx0_1 := cell_later hb hx0_1
  replace hx0_2 := cell_later hb hx0_2
  clear hb
  go_wp2_with fail
  refine (S_ValidBlock a0 _ wf0 hz0).mono ?_
  rintro e w3 ⟨rfl, hb⟩
  replace hB := hB.trans (hb.mono hB.size)
  have z3 := hb.size
  replace hx0_0 := cell_later hb hx0_0
  replace hx0_1 := cell_later hb hx0_1
  replace hx0_2 := cell_later hb hx0_2
  clear hb
  go_wp2_with fail
  refine (l_toBlock a0 _).mono ?_
  rintro e w4 ⟨rfl, hb⟩
  replace hB := hB.trans (hb.mono hB.size)
  have z4 := hb.size
  replace hx0_0 := cell_later hb hx0_0
  replace hx0_1 := cell_later hb hx0_1
  replace hx0_2 := cell_later hb hx0_2
  clear hb
  go_wp2_with fail
  refine (I_ValidBlock a0 _ wf0 hz0).mono ?_
  rintro e w5 ⟨rfl, hb⟩
  replace hB := hB.trans (hb.mono hB.size)
  have z5 := hb.size
  replace hx0_0 := cell_later hb hx0_0
  replace hx0_1 := cell_later hb hx0_1
  replace hx0_2 := cell_later hb hx0_2
  clear hb
  go_wp2
  go_ret
  exact ⟨rfl, hB⟩

end Go.Proofs.Ytnbeomceiealdaa
