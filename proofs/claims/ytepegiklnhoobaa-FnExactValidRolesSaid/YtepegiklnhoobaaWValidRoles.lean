/- The walk of the law on ValidRoles, printed by a program of mine off the law's text. -/
import Derived.Test.YtepegiklnhoobaaRows
import Derived.Test.YtepegiklnhoobaaCRole
import Derived.Test.YtepegiklnhoobaaRolesS
import Derived.Test.YtepegiklnhoobaaRolesI
namespace Go.Proofs.Ytepegiklnhoobaa
set_option linter.unusedVariables false
set_option linter.unusedSimpArgs false
set_option linter.unusedSectionVars false
open Go.RowKit

set_option maxHeartbeats 4000000 in
theorem w_ValidRoles (A0 : Option Addr) (n0 c0 : Nat) (l0 : List DRole) (w : World) (hr0 : RdRole w A0 n0 l0) (hn0 : n0 ≤ maxLen) (hg0 : ∀ x ∈ l0, DRole.good x) :
    Calls Try.prog 3 #[.slice A0 n0 c0] w (RetB true w) := by
  have HG0 := Lib.hid hg0; clear hg0
  have hB := Below.refl w.heap.size w
  go_enter Try.func3, Try.ntmps3
  go_wp2_with fail
  refine (l_szRoleS A0 n0 c0 l0 _ _ (hr0.below hB) hn0 HG0.out (by omega) (by omega)).mono ?_
  rintro e w1 ⟨r0, rfl, hb, hlo0, hq0⟩
  replace hB := hB.trans (hb.mono hB.size)
  have z1 := hb.size
  clear hb
  by_cases hneg0 : r0 < 0
  · obtain rfl : r0 = -1 := by omega
    clear hq0
    go_wp2
    go_ret
    exact ⟨rfl, hB⟩
  have hp0 := hq0 (by omega)
  have hpp0 := sumRole_nonneg l0
  have hb0 : n0 ≤ 1048576 := by omega
  have hsum0 : sumRole l0 ≤ 1048576 := by omega
  have hr0' : r0 ≤ 1048576 := by omega
  clear hp0 hpp0 hq0 hlo0
  go_wp2_with fail
  refine (l_toRoleS A0 n0 c0 l0 _ (hr0.below hB) hb0 hsum0).mono ?_
  rintro e w2 ⟨At1, ct1, Ft1, rfl, hFt1, hOt1, hb⟩
  replace hB := hB.trans (hb.mono hB.size)
  have z2 : w1.heap.size ≤ w2.heap.size := hb.size
  clear hb
  go_wp2_with fail
  refine (S_ValidRoles At1 n0 ct1 l0 _ hOt1.rd hb0 HG0.out hsum0).mono ?_
  rintro e w3 ⟨rfl, hb⟩
  replace hB := hB.trans (hb.mono hB.size)
  have z3 : w2.heap.size ≤ w3.heap.size := hb.size
  clear hb
  go_wp2_with fail
  refine (l_toRoleS A0 n0 c0 l0 _ (hr0.below hB) hb0 hsum0).mono ?_
  rintro e w4 ⟨Ax0, cx0, Fx0, rfl, hFx0, hOx0, hb⟩
  replace hB := hB.trans (hb.mono hB.size)
  have z4 : w3.heap.size ≤ w4.heap.size := hb.size
  clear hb
  go_wp2_with fail
  refine (I_ValidRoles Ax0 n0 cx0 l0 _ hOx0.rd hb0 HG0.out hsum0).mono ?_
  rintro e w5 ⟨rfl, hb⟩
  replace hB := hB.trans (hb.mono hB.size)
  have z5 : w4.heap.size ≤ w5.heap.size := hb.size
  replace hOx0 := hOx0.below hb
  clear hb
  go_wp2_with fail
  refine (l_toRoleS A0 n0 c0 l0 _ (hr0.below hB) hb0 hsum0).mono ?_
  rintro e w6 ⟨At2, ct2, Ft2, rfl, hFt2, hOt2, hb⟩
  replace hB := hB.trans (hb.mono hB.size)
  have z6 : w5.heap.size ≤ w6.heap.size := hb.size
  replace hOx0 := hOx0.below hb
  clear hb
  go_wp2_with fail
  refine (l_eqRoleS Ax0 At2 _ cx0 ct2 _ _ hOx0.rd hOt2.rd hOx0.max HG0.out).mono ?_
  rintro e w7 ⟨rfl, hb⟩
  replace hB := hB.trans (hb.mono hB.size)
  have z7 : w6.heap.size ≤ w7.heap.size := hb.size
  replace hOx0 := hOx0.below hb
  replace hOt2 := hOt2.below hb
  clear hb
  go_wp2
  go_ret
  exact ⟨rfl, hB⟩

end Go.Proofs.Ytepegiklnhoobaa
