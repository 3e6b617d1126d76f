/- The walk of the law on RightsOf, printed by a program of mine off the law's text. -/
import Derived.Test.YtepegiklnhoobaaRows
import Derived.Test.YtepegiklnhoobaaCRole
import Derived.Test.YtepegiklnhoobaaCGrant
import Derived.Test.YtepegiklnhoobaaRightsOf
namespace Go.Proofs.Ytepegiklnhoobaa
set_option linter.unusedVariables false
set_option linter.unusedSimpArgs false
set_option linter.unusedSectionVars false
open Go.RowKit

set_option maxRecDepth 100000 in
set_option maxHeartbeats 4000000 in
theorem w_RightsOf (A0 : Option Addr) (n0 c0 : Nat) (l0 : List DRole) (A1 : Option Addr) (n1 c1 : Nat) (l1 : List DGrant) (a2 : ByteArray) (w : World) (hr0 : RdRole w A0 n0 l0) (hn0 : n0 ≤ maxLen) (hg0 : ∀ x ∈ l0, DRole.good x) (hr1 : Rd grantE w A1 n1 l1) (hn1 : n1 ≤ maxLen) (hg1 : ∀ x ∈ l1, x.good) (wf2 : a2.size ≤ maxLen) :
    Calls Try.prog 13 #[.slice A0 n0 c0, .slice A1 n1 c1, .string a2] w (RetB true w) := by
  have HG0 := Lib.hid hg0; clear hg0
  have HG1 := Lib.hid hg1; clear hg1
  have hB := Below.refl w.heap.size w
  by_cases hs2 : (1048576 : Int) < a2.size
  · go_enter Try.func13, Try.ntmps13
    go_wp2
    go_ret
    exact ⟨rfl, Below.refl _ _⟩
  have hs2' : a2.size ≤ 1048576 := by omega
  go_enter Try.func13, Try.ntmps13
  go_wp2_with fail
  refine (l_szRoleS A0 n0 c0 l0 _ _ (hr0.below hB) hn0 HG0.out (by omega) (by omega)).mono ?_
  rintro e w1 ⟨r0, rfl, hb, hlo0, hq0⟩
  replace hB := hB.trans (hb.mono hB.size)
  have z1 := hb.size
  clear hb
  by_cases hneg0 : r0 < 0
  · obtain rfl : r0 = -1 := by omega
    clear hq0
    go_wp2
    go_ret
    exact ⟨rfl, hB⟩
  have hp0 := hq0 (by omega)
  have hpp0 := sumRole_nonneg l0
  have hb0 : n0 ≤ 1048576 := by omega
  have hsum0 : sumRole l0 ≤ 1048576 := by omega
  have hr0' : r0 ≤ 1048576 := by omega
  clear hp0 hpp0 hq0 hlo0
  go_wp2_with fail
  refine (l_szGrantS A1 n1 c1 l1 _ _ (hr1.below hB) hn1 HG1.out (by omega) (by omega)).mono ?_
  rintro e w2 ⟨r1, rfl, hb, hlo1, hq1⟩
  replace hB := hB.trans (hb.mono hB.size)
  have z2 : w1.heap.size ≤ w2.heap.size := hb.size
  clear hb
  by_cases hneg1 : r1 < 0
  · obtain rfl : r1 = -1 := by omega
    clear hq1
    go_wp2
    go_ret
    exact ⟨rfl, hB⟩
  have hp1 := hq1 (by omega)
  have hpp1 := sumGrant_nonneg l1
  have hb1 : n1 ≤ 1048576 := by omega
  have hsum1 : sumGrant l1 ≤ 1048576 := by omega
  have hr1' : r1 ≤ 1048576 := by omega
  clear hp1 hpp1 hq1 hlo1
  go_wp2_with fail
  refine (l_toRoleS A0 n0 c0 l0 _ (hr0.below hB) hb0 hsum0).mono ?_
  rintro e w3 ⟨At1, ct1, Ft1, rfl, hFt1, hOt1, hb⟩
  replace hB := hB.trans (hb.mono hB.size)
  have z3 : w2.heap.size ≤ w3.heap.size := hb.size
  clear hb
  go_wp2_with fail
  refine (l_toGrantS A1 n1 c1 l1 _ (hr1.below hB) hb1).mono ?_
  rintro e w4 ⟨At2, ct2, rfl, hl, ho, hb⟩
  obtain ⟨Ft2, hFt2, hOt2⟩ := OL.of_own ho hl
  clear ho hl
  replace hB := hB.trans (hb.mono hB.size)
  have z4 : w3.heap.size ≤ w4.heap.size := hb.size
  replace hOt1 := hOt1.below hb
  clear hb
  go_wp2_with fail
  refine (S_RightsOf At1 n0 ct1 l0 At2 n1 ct2 l1 a2 _ hOt1.rd hb0 HG0.out hsum0 hOt2.rd hb1 HG1.out hsum1 hs2').mono ?_
  rintro e w5 ⟨Aw0, nw0, cw0, hlw0, hnw0, how0, rfl, hb⟩
  obtain ⟨Fw0, hFw0, hOw0⟩ := OL.of_own how0 hlw0
  replace hB := hB.trans (hb.mono hB.size)
  have z5 : w4.heap.size ≤ w5.heap.size := hb.size
  clear hb
  go_wp2_with fail
  refine (l_toRoleS A0 n0 c0 l0 _ (hr0.below hB) hb0 hsum0).mono ?_
  rintro e w6 ⟨Ax0, cx0, Fx0, rfl, hFx0, hOx0, hb⟩
  replace hB := hB.trans (hb.mono hB.size)
  have z6 : w5.heap.size ≤ w6.heap.size := hb.size
  replace hOw0 := hOw0.below hb
  clear hb
  go_wp2_with fail
  refine (l_toGrantS A1 n1 c1 l1 _ (hr1.below hB) hb1).mono ?_
  rintro e w7 ⟨Ax1, cx1, rfl, hl, ho, hb⟩
  obtain ⟨Fx1, hFx1, hOx1⟩ := OL.of_own ho hl
  clear ho hl
  replace hB := hB.trans (hb.mono hB.size)
  have z7 : w6.heap.size ≤ w7.heap.size := hb.size
  replace hOw0 := hOw0.below hb
  replace hOx0 := hOx0.below hb
  clear hb
  go_wp2_with fail
  refine (I_RightsOf Ax0 n0 cx0 l0 Ax1 n1 cx1 l1 a2 _ hOx0.rd hb0 HG0.out hsum0 hOx1.rd hb1 HG1.out hsum1 hs2').mono ?_
  rintro e w8 ⟨Ag0, ng0, cg0, hlg0, hng0, hog0, rfl, hb⟩
  obtain ⟨Fg0, hFg0, hOg0⟩ := OL.of_own hog0 hlg0
  obtain rfl : nw0 = ng0 := hlw0.symm.trans hlg0
  clear hog0 hlg0
  replace hB := hB.trans (hb.mono hB.size)
  have z8 : w7.heap.size ≤ w8.heap.size := hb.size
  replace hOw0 := hOw0.below hb
  replace hOx0 := hOx0.below hb
  replace hOx1 := hOx1.below hb
  clear hb
  go_wp2_with fail
  refine (l_eqGrantS Ag0 Aw0 _ cg0 cw0 _ _ hOg0.rd hOw0.rd hOg0.max).mono ?_
  rintro e w9 ⟨rfl, hb⟩
  replace hB := hB.trans (hb.mono hB.size)
  have z9 : w8.heap.size ≤ w9.heap.size := hb.size
  replace hOw0 := hOw0.below hb
  replace hOx0 := hOx0.below hb
  replace hOx1 := hOx1.below hb
  replace hOg0 := hOg0.below hb
  clear hb
  go_wp2_with fail
  refine (l_toRoleS A0 n0 c0 l0 _ (hr0.below hB) hb0 hsum0).mono ?_
  rintro e w10 ⟨At3, ct3, Ft3, rfl, hFt3, hOt3, hb⟩
  replace hB := hB.trans (hb.mono hB.size)
  have z10 : w9.heap.size ≤ w10.heap.size := hb.size
  replace hOw0 := hOw0.below hb
  replace hOx0 := hOx0.below hb
  replace hOx1 := hOx1.below hb
  replace hOg0 := hOg0.below hb
  clear hb
  go_wp2_with fail
  refine (l_eqRoleS Ax0 At3 _ cx0 ct3 _ _ hOx0.rd hOt3.rd hOx0.max HG0.out).mono ?_
  rintro e w11 ⟨rfl, hb⟩
  replace hB := hB.trans (hb.mono hB.size)
  have z11 : w10.heap.size ≤ w11.heap.size := hb.size
  replace hOw0 := hOw0.below hb
  replace hOx0 := hOx0.below hb
  replace hOx1 := hOx1.below hb
  replace hOg0 := hOg0.below hb
  replace hOt3 := hOt3.below hb
  clear hb
  go_wp2_with fail
  refine (l_toGrantS A1 n1 c1 l1 _ (hr1.below hB) hb1).mono ?_
  rintro e w12 ⟨At4, ct4, rfl, hl, ho, hb⟩
  obtain ⟨Ft4, hFt4, hOt4⟩ := OL.of_own ho hl
  clear ho hl
  replace hB := hB.trans (hb.mono hB.size)
  have z12 : w11.heap.size ≤ w12.heap.size := hb.size
  replace hOw0 := hOw0.below hb
  replace hOx0 := hOx0.below hb
  replace hOx1 := hOx1.below hb
  replace hOg0 := hOg0.below hb
  clear hb
  go_wp2_with fail
  refine (l_eqGrantS Ax1 At4 _ cx1 ct4 _ _ hOx1.rd hOt4.rd hOx1.max).mono ?_
  rintro e w13 ⟨rfl, hb⟩
  replace hB := hB.trans (hb.mono hB.size)
  have z13 : w12.heap.size ≤ w13.heap.size := hb.size
  replace hOw0 := hOw0.below hb
  replace hOx0 := hOx0.below hb
  replace hOx1 := hOx1.below hb
  replace hOg0 := hOg0.below hb
  replace hOt4 := hOt4.below hb
  clear hb
  go_wp2_with fail
  refine (l_markRoleS Fx0 Ax0 _ cx0 _ _ _ hOx0 (by omega) (by omega) (by omega) hsum0).mono ?_
  rintro e w14 ⟨qx0, lmx0, hq0x0, hq1x0, rfl, hOx0, ht⟩
  replace hOw0 := hOw0.touch ht (fun k h1 h2 => by have := hFw0 k h1; have := hFx0 k h2; omega)
  replace hOx1 := hOx1.touch ht (fun k h1 h2 => by have := hFx1 k h1; have := hFx0 k h2; omega)
  replace hOg0 := hOg0.touch ht (fun k h1 h2 => by have := hFg0 k h1; have := hFx0 k h2; omega)
  replace hB := Below.touch hB ht (fun k hk => by have := hFx0 k hk; omega) (by omega)
  have z14 := ht.size
  clear ht
  go_wp2_with fail
  refine (l_markGrantS Fx1 Ax1 _ cx1 _ _ _ hOx1 (by omega) (by omega) (by omega)).mono ?_
  rintro e w15 ⟨rfl, hOx1, ht⟩
  replace hOw0 := hOw0.touch ht (fun k h1 h2 => by have := hFw0 k h1; have := hFx1 k h2; omega)
  replace hOx0 := hOx0.touch ht (fun k h1 h2 => by have := hFx0 k h1; have := hFx1 k h2; omega)
  replace hOg0 := hOg0.touch ht (fun k h1 h2 => by have := hFg0 k h1; have := hFx1 k h2; omega)
  replace hB := Below.touch hB ht (fun k hk => by have := hFx1 k hk; omega) (by omega)
  have z15 := ht.size
  clear ht
  go_wp2_with fail
  refine (l_eqGrantS Ag0 Aw0 _ cg0 cw0 _ _ hOg0.rd hOw0.rd hOg0.max).mono ?_
  rintro e w16 ⟨rfl, hb⟩
  replace hB := hB.trans (hb.mono hB.size)
  have z16 : w15.heap.size ≤ w16.heap.size := hb.size
  replace hOw0 := hOw0.below hb
  replace hOx0 := hOx0.below hb
  replace hOx1 := hOx1.below hb
  replace hOg0 := hOg0.below hb
  clear hb
  go_wp2_with fail
  refine (l_markGrantS Fg0 Ag0 _ cg0 _ _ _ hOg0 (by omega) (by omega) (by omega)).mono ?_
  rintro e w17 ⟨rfl, hOg0, ht⟩
  replace hOw0 := hOw0.touch ht (fun k h1 h2 => by have := hFw0 k h1; have := hFg0 k h2; omega)
  replace hOx0 := hOx0.touch ht (fun k h1 h2 => by have := hFx0 k h1; have := hFg0 k h2; omega)
  replace hOx1 := hOx1.touch ht (fun k h1 h2 => by have := hFx1 k h1; have := hFg0 k h2; omega)
  replace hB := Below.touch hB ht (fun k hk => by have := hFg0 k hk; omega) (by omega)
  have z17 := ht.size
  clear ht
  go_wp2_with fail
  refine (l_heldGrantS Fg0 Ag0 _ cg0 _ _ hOg0 (by omega) (by omega) (by omega)).mono ?_
  rintro e w18 ⟨rfl, hb⟩
  replace hB := hB.trans (hb.mono hB.size)
  have z18 : w17.heap.size ≤ w18.heap.size := hb.size
  replace hOw0 := hOw0.below hb
  replace hOx0 := hOx0.below hb
  replace hOx1 := hOx1.below hb
  replace hOg0 := hOg0.below hb
  clear hb
  go_wp2_with fail
  refine (l_toRoleS A0 n0 c0 l0 _ (hr0.below hB) hb0 hsum0).mono ?_
  rintro e w19 ⟨At5, ct5, Ft5, rfl, hFt5, hOt5, hb⟩
  replace hB := hB.trans (hb.mono hB.size)
  have z19 : w18.heap.size ≤ w19.heap.size := hb.size
  replace hOw0 := hOw0.below hb
  replace hOx0 := hOx0.below hb
  replace hOx1 := hOx1.below hb
  replace hOg0 := hOg0.below hb
  clear hb
  go_wp2_with fail
  refine (l_toGrantS A1 n1 c1 l1 _ (hr1.below hB) hb1).mono ?_
  rintro e w20 ⟨At6, ct6, rfl, hl, ho, hb⟩
  obtain ⟨Ft6, hFt6, hOt6⟩ := OL.of_own ho hl
  clear ho hl
  replace hB := hB.trans (hb.mono hB.size)
  have z20 : w19.heap.size ≤ w20.heap.size := hb.size
  replace hOw0 := hOw0.below hb
  replace hOx0 := hOx0.below hb
  replace hOx1 := hOx1.below hb
  replace hOg0 := hOg0.below hb
  replace hOt5 := hOt5.below hb
  clear hb
  go_wp2_with fail
  refine (I_RightsOf At5 n0 ct5 l0 At6 n1 ct6 l1 a2 _ hOt5.rd hb0 HG0.out hsum0 hOt6.rd hb1 HG1.out hsum1 hs2').mono ?_
  rintro e w21 ⟨Ah0, nh0, ch0, hlh0, hnh0, hoh0, rfl, hb⟩
  obtain ⟨Fh0, hFh0, hOh0⟩ := OL.of_own hoh0 hlh0
  obtain rfl : nw0 = nh0 := hlw0.symm.trans hlh0
  clear hoh0 hlh0
  replace hB := hB.trans (hb.mono hB.size)
  have z21 : w20.heap.size ≤ w21.heap.size := hb.size
  replace hOw0 := hOw0.below hb
  replace hOx0 := hOx0.below hb
  replace hOx1 := hOx1.below hb
  replace hOg0 := hOg0.below hb
  clear hb
  go_wp2_with fail
  refine (l_eqGrantS Ah0 Aw0 _ ch0 cw0 _ _ hOh0.rd hOw0.rd hOh0.max).mono ?_
  rintro e w22 ⟨rfl, hb⟩
  replace hB := hB.trans (hb.mono hB.size)
  have z22 : w21.heap.size ≤ w22.heap.size := hb.size
  replace hOw0 := hOw0.below hb
  replace hOx0 := hOx0.below hb
  replace hOx1 := hOx1.below hb
  replace hOg0 := hOg0.below hb
  replace hOh0 := hOh0.below hb
  clear hb
  go_wp2_with fail
  refine (l_heldGrantS Fg0 Ag0 _ cg0 _ _ hOg0 (by omega) (by omega) (by omega)).mono ?_
  rintro e w23 ⟨rfl, hb⟩
  replace hB := hB.trans (hb.mono hB.size)
  have z23 : w22.heap.size ≤ w23.heap.size := hb.size
  replace hOw0 := hOw0.below hb
  replace hOx0 := hOx0.below hb
  replace hOx1 := hOx1.below hb
  replace hOg0 := hOg0.below hb
  replace hOh0 := hOh0.below hb
  clear hb
  go_wp2
  go_ret
  exact ⟨rfl, hB⟩

end Go.Proofs.Ytepegiklnhoobaa
