/- The walk of the law on LoadBlocks, printed by a program of mine off the law's text. -/
import Derived.Test.YtnbeomceiealdaaGreatDoorRows
import Derived.Test.YtnbeomceiealdaaGreatDoorCBlock
import Derived.Test.YtnbeomceiealdaaGreatDoorConvS
import Derived.Test.YtnbeomceiealdaaGreatDoorMarks
import Derived.Test.YtnbeomceiealdaaGreatDoorLoad
namespace Go.Proofs.YtnbeomceiealdaaGreatDoor
set_option linter.unusedVariables false
set_option linter.unusedSimpArgs false
set_option linter.unusedSectionVars false
open Go.RowKit

set_option maxRecDepth 100000 in
set_option maxHeartbeats 4000000 in
theorem w_LoadBlocks (a0 : ByteArray) (w : World) (wf0 : a0.size ≤ maxLen) (hL : LibW w) :
    Calls Tryz.prog 3 #[.string a0] w (RetB true w) := by
  have hB := Below.refl w.heap.size w
  by_cases hs0 : (1048576 : Int) < a0.size
  · go_enter Tryz.func3, Tryz.ntmps3
    go_wp2
    go_ret
    exact ⟨rfl, Below.refl _ _⟩
  have hs0' : a0.size ≤ 1048576 := by omega
  go_enter Tryz.func3, Tryz.ntmps3
  go_wp2_with fail
  refine (S_LoadBlocks a0 _ hs0').mono ?_
  rintro e w1 ⟨Aw0, nw0, cw0, hlw0, hnw0, how0, rfl, hb⟩
  obtain ⟨Fw0, hFw0, hOw0⟩ := OL.of_own how0 hlw0
  replace hB := hB.trans (hb.mono hB.size)
  have z1 := hb.size
  clear hb
  go_wp2_with fail
  refine (I_LoadBlocks a0 _ hs0' (hL.below hB)).mono ?_
  rintro e w2 ⟨Ag0, ng0, cg0, hlg0, hng0, hog0, rfl, hb⟩
  obtain ⟨Fg0, hFg0, hOg0⟩ := OL.of_own hog0 hlg0
  obtain rfl : nw0 = ng0 := hlw0.symm.trans hlg0
  clear hog0 hlg0
  replace hB := hB.trans (hb.mono hB.size)
  have z2 : w1.heap.size ≤ w2.heap.size := hb.size
  replace hOw0 := hOw0.below hb
  clear hb
  go_wp2_with fail
  refine (l_eqBlockS Ag0 Aw0 _ cg0 cw0 _ _ hOg0.rd hOw0.rd hOg0.max).mono ?_
  rintro e w3 ⟨rfl, hb⟩
  replace hB := hB.trans (hb.mono hB.size)
  have z3 : w2.heap.size ≤ w3.heap.size := hb.size
  replace hOw0 := hOw0.below hb
  replace hOg0 := hOg0.below hb
  clear hb
  go_wp2_with fail
  refine (l_markBlockS Fg0 Ag0 _ cg0 _ _ _ hOg0 (by omega) (by omega) (by omega)).mono ?_
  rintro e w4 ⟨rfl, hOg0, ht⟩
  replace hOw0 := hOw0.touch ht (fun k h1 h2 => by have := hFw0 k h1; have := hFg0 k h2; omega)
  replace hB := Below.touch hB ht (fun k hk => by have := hFg0 k hk; omega) (by omega)
  have z4 := ht.size
  clear ht
  go_wp2_with fail
  refine (l_heldBlockS Fg0 Ag0 _ cg0 _ _ hOg0 (by omega) (by omega) (by omega)).mono ?_
  rintro e w5 ⟨rfl, hb⟩
  replace hB := hB.trans (hb.mono hB.size)
  have z5 : w4.heap.size ≤ w5.heap.size := hb.size
  replace hOw0 := hOw0.below hb
  replace hOg0 := hOg0.below hb
  clear hb
  go_wp2_with fail
  refine (I_LoadBlocks a0 _ hs0' (hL.below hB)).mono ?_
  rintro e w6 ⟨Ah0, nh0, ch0, hlh0, hnh0, hoh0, rfl, hb⟩
  obtain ⟨Fh0, hFh0, hOh0⟩ := OL.of_own hoh0 hlh0
  obtain rfl : nw0 = nh0 := hlw0.symm.trans hlh0
  clear hoh0 hlh0
  replace hB := hB.trans (hb.mono hB.size)
  have z6 : w5.heap.size ≤ w6.heap.size := hb.size
  replace hOw0 := hOw0.below hb
  replace hOg0 := hOg0.below hb
  clear hb
  go_wp2_with fail
  refine (l_eqBlockS Ah0 Aw0 _ ch0 cw0 _ _ hOh0.rd hOw0.rd hOh0.max).mono ?_
  rintro e w7 ⟨rfl, hb⟩
  replace hB := hB.trans (hb.mono hB.size)
  have z7 : w6.heap.size ≤ w7.heap.size := hb.size
  replace hOw0 := hOw0.below hb
  replace hOg0 := hOg0.below hb
  replace hOh0 := hOh0.below hb
  clear hb
  go_wp2_with fail
  refine (l_heldBlockS Fg0 Ag0 _ cg0 _ _ hOg0 (by omega) (by omega) (by omega)).mono ?_
  rintro e w8 ⟨rfl, hb⟩
  replace hB := hB.trans (hb.mono hB.size)
  have z8 : w7.heap.size ≤ w8.heap.size := hb.size
  replace hOw0 := hOw0.below hb
  replace hOg0 := hOg0.below hb
  replace hOh0 := hOh0.below hb
  clear hb
  go_wp2
  go_ret
  exact ⟨rfl, hB⟩

end Go.Proofs.YtnbeomceiealdaaGreatDoor
