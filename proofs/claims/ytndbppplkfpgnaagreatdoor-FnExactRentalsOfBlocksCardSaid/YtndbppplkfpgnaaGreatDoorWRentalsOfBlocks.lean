/- The walk of the law on RentalsOfBlocks, printed by a program of mine off the law's text. -/
import Derived.Test.YtndbppplkfpgnaaGreatDoorRows
import Derived.Test.YtndbppplkfpgnaaGreatDoorCRental
import Derived.Test.YtndbppplkfpgnaaGreatDoorCBlock
import Derived.Test.YtndbppplkfpgnaaGreatDoorConvS
import Derived.Test.YtndbppplkfpgnaaGreatDoorMarks
import Derived.Test.YtndbppplkfpgnaaGreatDoorRo
namespace Go.Proofs.YtndbppplkfpgnaaGreatDoor
set_option linter.unusedVariables false
set_option linter.unusedSimpArgs false
set_option linter.unusedSectionVars false
open Go.RowKit

set_option maxRecDepth 100000 in
set_option maxHeartbeats 4000000 in
theorem w_RentalsOfBlocks (A0 : Option Addr) (n0 c0 : Nat) (l0 : List DBlock) (w : World) (hr0 : Rd blockE w A0 n0 l0) (hn0 : n0 ≤ maxLen) (hg0 : ∀ x ∈ l0, x.good) (hL : LibW w) :
    Calls Tryz.prog 3 #[.slice A0 n0 c0] w (RetB true w) := by
  have HG0 := Lib.hid hg0; clear hg0
  have hB := Below.refl w.heap.size w
  go_enter Tryz.func3, Tryz.ntmps3
  go_wp2_with fail
  refine (l_szBlockS A0 n0 c0 l0 _ _ (hr0.below hB) hn0 HG0.out (by omega) (by omega)).mono ?_
  rintro e w1 ⟨r0, rfl, hb, hlo0, hq0⟩
  replace hB := hB.trans (hb.mono hB.size)
  have z1 := hb.size
  clear hb
  by_cases hneg0 : r0 < 0
  · obtain rfl : r0 = -1 := by omega
    clear hq0
    go_wp2
    go_ret
    exact ⟨rfl, hB⟩
  have hp0 := hq0 (by omega)
  have hpp0 := sumBlock_nonneg l0
  have hb0 : n0 ≤ 1048576 := by omega
  have hsum0 : sumBlock l0 ≤ 1048576 := by omega
  have hr0' : r0 ≤ 1048576 := by omega
  clear hp0 hpp0 hq0 hlo0
  go_wp2_with fail
  refine (l_toBlockS A0 n0 c0 l0 _ (hr0.below hB) hb0).mono ?_
  rintro e w2 ⟨At1, ct1, rfl, hl, ho, hb⟩
  obtain ⟨Ft1, hFt1, hOt1⟩ := OL.of_own ho hl
  clear ho hl
  replace hB := hB.trans (hb.mono hB.size)
  have z2 : w1.heap.size ≤ w2.heap.size := hb.size
  clear hb
  go_wp2_with fail
  refine (S_RentalsOfBlocks At1 n0 ct1 l0 _ hOt1.rd hb0 HG0.out hsum0).mono ?_
  rintro e w3 ⟨Aw0, nw0, cw0, hlw0, hnw0, how0, rfl, hb⟩
  obtain ⟨Fw0, hFw0, hOw0⟩ := OL.of_own how0 hlw0
  replace hB := hB.trans (hb.mono hB.size)
  have z3 : w2.heap.size ≤ w3.heap.size := hb.size
  clear hb
  go_wp2_with fail
  refine (l_toBlockS A0 n0 c0 l0 _ (hr0.below hB) hb0).mono ?_
  rintro e w4 ⟨Ax0, cx0, rfl, hl, ho, hb⟩
  obtain ⟨Fx0, hFx0, hOx0⟩ := OL.of_own ho hl
  clear ho hl
  replace hB := hB.trans (hb.mono hB.size)
  have z4 : w3.heap.size ≤ w4.heap.size := hb.size
  replace hOw0 := hOw0.below hb
  clear hb
  go_wp2_with fail
  refine (I_RentalsOfBlocks Ax0 n0 cx0 l0 _ hOx0.rd hb0 HG0.out hsum0 (hL.below hB)).mono ?_
  rintro e w5 ⟨Ag0, ng0, cg0, hlg0, hng0, hog0, rfl, hb⟩
  obtain ⟨Fg0, hFg0, hOg0⟩ := OL.of_own hog0 hlg0
  obtain rfl : nw0 = ng0 := hlw0.symm.trans hlg0
  clear hog0 hlg0
  replace hB := hB.trans (hb.mono hB.size)
  have z5 : w4.heap.size ≤ w5.heap.size := hb.size
  replace hOw0 := hOw0.below hb
  replace hOx0 := hOx0.below hb
  clear hb
  go_wp2_with fail
  refine (l_eqRentalS Ag0 Aw0 _ cg0 cw0 _ _ hOg0.rd hOw0.rd hOg0.max).mono ?_
  rintro e w6 ⟨rfl, hb⟩
  replace hB := hB.trans (hb.mono hB.size)
  have z6 : w5.heap.size ≤ w6.heap.size := hb.size
  replace hOw0 := hOw0.below hb
  replace hOx0 := hOx0.below hb
  replace hOg0 := hOg0.below hb
  clear hb
  go_wp2_with fail
  refine (l_toBlockS A0 n0 c0 l0 _ (hr0.below hB) hb0).mono ?_
  rintro e w7 ⟨At2, ct2, rfl, hl, ho, hb⟩
  obtain ⟨Ft2, hFt2, hOt2⟩ := OL.of_own ho hl
  clear ho hl
  replace hB := hB.trans (hb.mono hB.size)
  have z7 : w6.heap.size ≤ w7.heap.size := hb.size
  replace hOw0 := hOw0.below hb
  replace hOx0 := hOx0.below hb
  replace hOg0 := hOg0.below hb
  clear hb
  go_wp2_with fail
  refine (l_eqBlockS Ax0 At2 _ cx0 ct2 _ _ hOx0.rd hOt2.rd hOx0.max).mono ?_
  rintro e w8 ⟨rfl, hb⟩
  replace hB := hB.trans (hb.mono hB.size)
  have z8 : w7.heap.size ≤ w8.heap.size := hb.size
  replace hOw0 := hOw0.below hb
  replace hOx0 := hOx0.below hb
  replace hOg0 := hOg0.below hb
  replace hOt2 := hOt2.below hb
  clear hb
  go_wp2_with fail
  refine (l_markBlockS Fx0 Ax0 _ cx0 _ _ _ hOx0 (by omega) (by omega) (by omega)).mono ?_
  rintro e w9 ⟨rfl, hOx0, ht⟩
  replace hOw0 := hOw0.touch ht (fun k h1 h2 => by have := hFw0 k h1; have := hFx0 k h2; omega)
  replace hOg0 := hOg0.touch ht (fun k h1 h2 => by have := hFg0 k h1; have := hFx0 k h2; omega)
  replace hB := Below.touch hB ht (fun k hk => by have := hFx0 k hk; omega) (by omega)
  have z9 := ht.size
  clear ht
  go_wp2_with fail
  refine (l_eqRentalS Ag0 Aw0 _ cg0 cw0 _ _ hOg0.rd hOw0.rd hOg0.max).mono ?_
  rintro e w10 ⟨rfl, hb⟩
  replace hB := hB.trans (hb.mono hB.size)
  have z10 : w9.heap.size ≤ w10.heap.size := hb.size
  replace hOw0 := hOw0.below hb
  replace hOx0 := hOx0.below hb
  replace hOg0 := hOg0.below hb
  clear hb
  go_wp2_with fail
  refine (l_markRentalS Fg0 Ag0 _ cg0 _ _ _ hOg0 (by omega) (by omega) (by omega)).mono ?_
  rintro e w11 ⟨rfl, hOg0, ht⟩
  replace hOw0 := hOw0.touch ht (fun k h1 h2 => by have := hFw0 k h1; have := hFg0 k h2; omega)
  replace hOx0 := hOx0.touch ht (fun k h1 h2 => by have := hFx0 k h1; have := hFg0 k h2; omega)
  replace hB := Below.touch hB ht (fun k hk => by have := hFg0 k hk; omega) (by omega)
  have z11 := ht.size
  clear ht
  go_wp2_with fail
  refine (l_heldRentalS Fg0 Ag0 _ cg0 _ _ hOg0 (by omega) (by omega) (by omega)).mono ?_
  rintro e w12 ⟨rfl, hb⟩
  replace hB := hB.trans (hb.mono hB.size)
  have z12 : w11.heap.size ≤ w12.heap.size := hb.size
  replace hOw0 := hOw0.below hb
  replace hOx0 := hOx0.below hb
  replace hOg0 := hOg0.below hb
  clear hb
  go_wp2_with fail
  refine (l_toBlockS A0 n0 c0 l0 _ (hr0.below hB) hb0).mono ?_
  rintro e w13 ⟨At3, ct3, rfl, hl, ho, hb⟩
  obtain ⟨Ft3, hFt3, hOt3⟩ := OL.of_own ho hl
  clear ho hl
  replace hB := hB.trans (hb.mono hB.size)
  have z13 : w12.heap.size ≤ w13.heap.size := hb.size
  replace hOw0 := hOw0.below hb
  replace hOx0 := hOx0.below hb
  replace hOg0 := hOg0.below hb
  clear hb
  go_wp2_with fail
  refine (I_RentalsOfBlocks At3 n0 ct3 l0 _ hOt3.rd hb0 HG0.out hsum0 (hL.below hB)).mono ?_
  rintro e w14 ⟨Ah0, nh0, ch0, hlh0, hnh0, hoh0, rfl, hb⟩
  obtain ⟨Fh0, hFh0, hOh0⟩ := OL.of_own hoh0 hlh0
  obtain rfl : nw0 = nh0 := hlw0.symm.trans hlh0
  clear hoh0 hlh0
  replace hB := hB.trans (hb.mono hB.size)
  have z14 : w13.heap.size ≤ w14.heap.size := hb.size
  replace hOw0 := hOw0.below hb
  replace hOx0 := hOx0.below hb
  replace hOg0 := hOg0.below hb
  clear hb
  go_wp2_with fail
  refine (l_eqRentalS Ah0 Aw0 _ ch0 cw0 _ _ hOh0.rd hOw0.rd hOh0.max).mono ?_
  rintro e w15 ⟨rfl, hb⟩
  replace hB := hB.trans (hb.mono hB.size)
  have z15 : w14.heap.size ≤ w15.heap.size := hb.size
  replace hOw0 := hOw0.below hb
  replace hOx0 := hOx0.below hb
  replace hOg0 := hOg0.below hb
  replace hOh0 := hOh0.below hb
  clear hb
  go_wp2_with fail
  refine (l_heldRentalS Fg0 Ag0 _ cg0 _ _ hOg0 (by omega) (by omega) (by omega)).mono ?_
  rintro e w16 ⟨rfl, hb⟩
  replace hB := hB.trans (hb.mono hB.size)
  have z16 : w15.heap.size ≤ w16.heap.size := hb.size
  replace hOw0 := hOw0.below hb
  replace hOx0 := hOx0.below hb
  replace hOg0 := hOg0.below hb
  replace hOh0 := hOh0.below hb
  clear hb
  go_wp2
  go_ret
  exact ⟨rfl, hB⟩

end Go.Proofs.YtndbppplkfpgnaaGreatDoor
