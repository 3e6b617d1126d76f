/- The walk of the law on LeastRole, printed by a program of mine off the law's text. -/
import Derived.Test.YtepegiklnhoobaaRows
import Derived.Test.YtepegiklnhoobaaCRole
import Derived.Test.YtepegiklnhoobaaCGrant
import Derived.Test.YtepegiklnhoobaaLeast
namespace Go.Proofs.Ytepegiklnhoobaa
set_option linter.unusedVariables false
set_option linter.unusedSimpArgs false
set_option linter.unusedSectionVars false
open Go.RowKit

set_option maxRecDepth 100000 in
set_option maxHeartbeats 4000000 in
theorem w_LeastRole (A0 : Option Addr) (n0 c0 : Nat) (l0 : List DRole) (A1 : Option Addr) (n1 c1 : Nat) (l1 : List DGrant) (a2 : ByteArray) (a3 : Int) (w : World) (hr0 : RdRole w A0 n0 l0) (hn0 : n0 ≤ maxLen) (hg0 : ∀ x ∈ l0, DRole.good x) (hr1 : Rd grantE w A1 n1 l1) (hn1 : n1 ≤ maxLen) (hg1 : ∀ x ∈ l1, x.good) (wf2 : a2.size ≤ maxLen) (lo3 : -9223372036854775808 ≤ a3) (hi3 : a3 ≤ 9223372036854775807) :
    Calls Try.prog 10 #[.slice A0 n0 c0, .slice A1 n1 c1, .string a2, .int .i64 a3] w (RetB true w) := by
  have HG0 := Lib.hid hg0; clear hg0
  have HG1 := Lib.hid hg1; clear hg1
  have hB := Below.refl w.heap.size w
  by_cases hs2 : (1048576 : Int) < a2.size
  · go_enter Try.func10, Try.ntmps10
    go_wp2
    go_ret
    exact ⟨rfl, Below.refl _ _⟩
  have hs2' : a2.size ≤ 1048576 := by omega
  go_enter Try.func10, Try.ntmps10
  go_wp2_with fail
  refine (l_szRoleS A0 n0 c0 l0 _ _ (hr0.below hB) hn0 HG0.out (by omega) (by omega)).mono ?_
  rintro e w1 ⟨r0, rfl, hb, hlo0, hq0⟩
  replace hB := hB.trans (hb.mono hB.size)
  have z1 := hb.size
  clear hb
  by_cases hneg0 : r0 < 0
  · obtain rfl : r0 = -1 := by omega
    clear hq0
    go_wp2
    go_ret
    exact ⟨rfl, hB⟩
  have hp0 := hq0 (by omega)
  have hpp0 := sumRole_nonneg l0
  have hb0 : n0 ≤ 1048576 := by omega
  have hsum0 : sumRole l0 ≤ 1048576 := by omega
  have hr0' : r0 ≤ 1048576 := by omega
  clear hp0 hpp0 hq0 hlo0
  go_wp2_with fail
  refine (l_szGrantS A1 n1 c1 l1 _ _ (hr1.below hB) hn1 HG1.out (by omega) (by omega)).mono ?_
  rintro e w2 ⟨r1, rfl, hb, hlo1, hq1⟩
  replace hB := hB.trans (hb.mono hB.size)
  have z2 : w1.heap.size ≤ w2.heap.size := hb.size
  clear hb
  by_cases hneg1 : r1 < 0
  · obtain rfl : r1 = -1 := by omega
    clear hq1
    go_wp2
    go_ret
    exact ⟨rfl, hB⟩
  have hp1 := hq1 (by omega)
  have hpp1 := sumGrant_nonneg l1
  have hb1 : n1 ≤ 1048576 := by omega
  have hsum1 : sumGrant l1 ≤ 1048576 := by omega
  have hr1' : r1 ≤ 1048576 := by omega
  clear hp1 hpp1 hq1 hlo1
  go_wp2_with fail
  refine (l_toRoleS A0 n0 c0 l0 _ (hr0.below hB) hb0 hsum0).mono ?_
  rintro e w3 ⟨At1, ct1, Ft1, rfl, hFt1, hOt1, hb⟩
  replace hB := hB.trans (hb.mono hB.size)
  have z3 : w2.heap.size ≤ w3.heap.size := hb.size
  clear hb
  go_wp2_with fail
  refine (l_toGrantS A1 n1 c1 l1 _ (hr1.below hB) hb1).mono ?_
  rintro e w4 ⟨At2, ct2, rfl, hl, ho, hb⟩
  obtain ⟨Ft2, hFt2, hOt2⟩ := OL.of_own ho hl
  clear ho hl
  replace hB := hB.trans (hb.mono hB.size)
  have z4 : w3.heap.size ≤ w4.heap.size := hb.size
  replace hOt1 := hOt1.below hb
  clear hb
  go_wp2_with fail
  refine (S_LeastRole At1 n0 ct1 l0 At2 n1 ct2 l1 a2 a3 _ hOt1.rd hb0 HG0.out hsum0 hOt2.rd hb1 HG1.out hsum1 hs2' lo3 hi3).mono ?_
  rintro e w5 ⟨rfl, hb⟩
  replace hB := hB.trans (hb.mono hB.size)
  have z5 : w4.heap.size ≤ w5.heap.size := hb.size
  clear hb
  go_wp2_with fail
  refine (l_toRoleS A0 n0 c0 l0 _ (hr0.below hB) hb0 hsum0).mono ?_
  rintro e w6 ⟨Ax0, cx0, Fx0, rfl, hFx0, hOx0, hb⟩
  replace hB := hB.trans (hb.mono hB.size)
  have z6 : w5.heap.size ≤ w6.heap.size := hb.size
  clear hb
  go_wp2_with fail
  refine (l_toGrantS A1 n1 c1 l1 _ (hr1.below hB) hb1).mono ?_
  rintro e w7 ⟨Ax1, cx1, rfl, hl, ho, hb⟩
  obtain ⟨Fx1, hFx1, hOx1⟩ := OL.of_own ho hl
  clear ho hl
  replace hB := hB.trans (hb.mono hB.size)
  have z7 : w6.heap.size ≤ w7.heap.size := hb.size
  replace hOx0 := hOx0.below hb
  clear hb
  go_wp2_with fail
  refine (I_LeastRole Ax0 n0 cx0 l0 Ax1 n1 cx1 l1 a2 a3 _ hOx0.rd hb0 HG0.out hsum0 hOx1.rd hb1 HG1.out hsum1 hs2' lo3 hi3).mono ?_
  rintro e w8 ⟨rfl, hb⟩
  replace hB := hB.trans (hb.mono hB.size)
  have z8 : w7.heap.size ≤ w8.heap.size := hb.size
  replace hOx0 := hOx0.below hb
  replace hOx1 := hOx1.below hb
  clear hb
  go_wp2_with fail
  refine (l_toRoleS A0 n0 c0 l0 _ (hr0.below hB) hb0 hsum0).mono ?_
  rintro e w9 ⟨At3, ct3, Ft3, rfl, hFt3, hOt3, hb⟩
  replace hB := hB.trans (hb.mono hB.size)
  have z9 : w8.heap.size ≤ w9.heap.size := hb.size
  replace hOx0 := hOx0.below hb
  replace hOx1 := hOx1.below hb
  clear hb
  go_wp2_with fail
  refine (l_eqRoleS Ax0 At3 _ cx0 ct3 _ _ hOx0.rd hOt3.rd hOx0.max HG0.out).mono ?_
  rintro e w10 ⟨rfl, hb⟩
  replace hB := hB.trans (hb.mono hB.size)
  have z10 : w9.heap.size ≤ w10.heap.size := hb.size
  replace hOx0 := hOx0.below hb
  replace hOx1 := hOx1.below hb
  replace hOt3 := hOt3.below hb
  clear hb
  go_wp2_with fail
  refine (l_toGrantS A1 n1 c1 l1 _ (hr1.below hB) hb1).mono ?_
  rintro e w11 ⟨At4, ct4, rfl, hl, ho, hb⟩
  obtain ⟨Ft4, hFt4, hOt4⟩ := OL.of_own ho hl
  clear ho hl
  replace hB := hB.trans (hb.mono hB.size)
  have z11 : w10.heap.size ≤ w11.heap.size := hb.size
  replace hOx0 := hOx0.below hb
  replace hOx1 := hOx1.below hb
  clear hb
  go_wp2_with fail
  refine (l_eqGrantS Ax1 At4 _ cx1 ct4 _ _ hOx1.rd hOt4.rd hOx1.max).mono ?_
  rintro e w12 ⟨rfl, hb⟩
  replace hB := hB.trans (hb.mono hB.size)
  have z12 : w11.heap.size ≤ w12.heap.size := hb.size
  replace hOx0 := hOx0.below hb
  replace hOx1 := hOx1.below hb
  replace hOt4 := hOt4.below hb
  clear hb
  go_wp2
  go_ret
  exact ⟨rfl, hB⟩

end Go.Proofs.Ytepegiklnhoobaa
