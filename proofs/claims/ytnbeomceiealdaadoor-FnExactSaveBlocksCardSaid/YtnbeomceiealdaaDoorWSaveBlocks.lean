/- The walk of the law on SaveBlocks, printed by a program of mine off the law's text. -/
import Derived.Test.YtnbeomceiealdaaDoorRows
import Derived.Test.YtnbeomceiealdaaDoorCBlock
import Derived.Test.YtnbeomceiealdaaDoorConvS
import Derived.Test.YtnbeomceiealdaaDoorMarks
import Derived.Test.YtnbeomceiealdaaDoorArc
namespace Go.Proofs.YtnbeomceiealdaaDoor
set_option linter.unusedVariables false
set_option linter.unusedSimpArgs false
set_option linter.unusedSectionVars false
open Go.RowKit

set_option maxRecDepth 100000 in
set_option maxHeartbeats 4000000 in
theorem w_SaveBlocks (A0 : Option Addr) (n0 c0 : Nat) (l0 : List DBlock) (w : World) (hr0 : Rd blockE w A0 n0 l0) (hn0 : n0 ≤ maxLen) (hg0 : ∀ x ∈ l0, x.good) (hL : LibW w) :
    Calls Tryd.prog 3 #[.slice A0 n0 c0] w (RetB true w) := by
  have HG0 := Lib.hid hg0; clear hg0
  have hB := Below.refl w.heap.size w
  go_enter Tryd.func3, Tryd.ntmps3
  go_wp2_with fail
  refine (l_szBlockS A0 n0 c0 l0 _ _ (hr0.below hB) hn0 HG0.out (by omega) (by omega)).mono ?_
  rintro e w1 ⟨r0, rfl, hb, hlo0, hq0⟩
  replace hB := hB.trans (hb.mono hB.size)
  have z1 := hb.size
  clear hb
  by_cases hneg0 : r0 < 0
  · obtain rfl : r0 = -1 := by omega
    clear hq0
    go_wp2
    go_ret
    exact ⟨rfl, hB⟩
  have hp0 := hq0 (by omega)
  have hpp0 := sumBlock_nonneg l0
  have hb0 : n0 ≤ 1048576 := by omega
  have hsum0 : sumBlock l0 ≤ 1048576 := by omega
  have hr0' : r0 ≤ 1048576 := by omega
  clear hp0 hpp0 hq0 hlo0
  go_wp2_with fail
  refine (l_toBlockS A0 n0 c0 l0 _ (hr0.below hB) hb0).mono ?_
  rintro e w2 ⟨At1, ct1, rfl, hl, ho, hb⟩
  obtain ⟨Ft1, hFt1, hOt1⟩ := OL.of_own ho hl
  clear ho hl
  replace hB := hB.trans (hb.mono hB.size)
  have z2 : w1.heap.size ≤ w2.heap.size := hb.size
  clear hb
  go_wp2_with fail
  refine (S_SaveBlocks At1 n0 ct1 l0 _ hOt1.rd hb0 HG0.out hsum0).mono ?_
  rintro e w3 ⟨rfl, hb⟩
  replace hB := hB.trans (hb.mono hB.size)
  have z3 : w2.heap.size ≤ w3.heap.size := hb.size
  clear hb
  go_wp2_with fail
  refine (l_toBlockS A0 n0 c0 l0 _ (hr0.below hB) hb0).mono ?_
  rintro e w4 ⟨Ax0, cx0, rfl, hl, ho, hb⟩
  obtain ⟨Fx0, hFx0, hOx0⟩ := OL.of_own ho hl
  clear ho hl
  replace hB := hB.trans (hb.mono hB.size)
  have z4 : w3.heap.size ≤ w4.heap.size := hb.size
  clear hb
  go_wp2_with fail
  refine (I_SaveBlocks Ax0 n0 cx0 l0 _ hOx0.rd hb0 HG0.out hsum0 (hL.below hB)).mono ?_
  rintro e w5 ⟨rfl, hb⟩
  replace hB := hB.trans (hb.mono hB.size)
  have z5 : w4.heap.size ≤ w5.heap.size := hb.size
  replace hOx0 := hOx0.below hb
  clear hb
  go_wp2_with fail
  refine (l_toBlockS A0 n0 c0 l0 _ (hr0.below hB) hb0).mono ?_
  rintro e w6 ⟨At2, ct2, rfl, hl, ho, hb⟩
  obtain ⟨Ft2, hFt2, hOt2⟩ := OL.of_own ho hl
  clear ho hl
  replace hB := hB.trans (hb.mono hB.size)
  have z6 : w5.heap.size ≤ w6.heap.size := hb.size
  replace hOx0 := hOx0.below hb
  clear hb
  go_wp2_with fail
  refine (l_eqBlockS Ax0 At2 _ cx0 ct2 _ _ hOx0.rd hOt2.rd hOx0.max).mono ?_
  rintro e w7 ⟨rfl, hb⟩
  replace hB := hB.trans (hb.mono hB.size)
  have z7 : w6.heap.size ≤ w7.heap.size := hb.size
  replace hOx0 := hOx0.below hb
  replace hOt2 := hOt2.below hb
  clear hb
  go_wp2
  go_ret
  exact ⟨rfl, hB⟩

end Go.Proofs.YtnbeomceiealdaaDoor
