/- The walk of the law on MergeVersions, printed by a program of mine off the law's text. -/
import Derived.Test.YtfabijhilfjkcaaRows
import Derived.Test.YtfabijhilfjkcaaMvV
namespace Go.Proofs.Ytfabijhilfjkcaa
set_option linter.unusedVariables false
set_option linter.unusedSimpArgs false
set_option linter.unusedSectionVars false
open Go.RowKit
set_option maxRecDepth 100000

theorem cnt_sum (l : List DVersion) : (cntV l : Int) ≤ 3 * l.length + 2 * sumVersion l := by
  induction l with
  | nil => simp [cntV, sumVersion]
  | cons x r ih =>
    have h2 : (x.fState.length : Int) ≤ x.sz := by
      have h3 := sumSetting_nonneg x.fState
      unfold DVersion.sz
      omega
    simp only [cntV, sumVersion, List.length_cons]
    omega
theorem cnt_few : ∀ {l : List DVersion}, (∀ x ∈ l, x.fState.length ≤ 24) → cntV l ≤ 51 * l.length
  | [], _ => Nat.le_refl _
  | x :: r, h => by
    have ih := cnt_few (l := r) fun y hy => h y (by simp [hy])
    have := h x (by simp)
    simp only [cntV, List.length_cons]
    omega
set_option maxHeartbeats 4000000 in
theorem w_MergeVersions (A0 : Option Addr) (n0 c0 : Nat) (l0 : List DVersion) (a1 a2 : Int) (a3 : ByteArray) (w : World) (hr0 : RdVersion w A0 n0 l0) (hn0 : n0 ≤ maxLen) (hg0 : ∀ x ∈ l0, DVersion.good x) (lo1 : -9223372036854775808 ≤ a1) (hi1 : a1 ≤ 9223372036854775807) (lo2 : -9223372036854775808 ≤ a2) (hi2 : a2 ≤ 9223372036854775807) (wf3 : a3.size ≤ maxLen) :
    Calls Try.prog 3 #[.slice A0 n0 c0, .int .i64 a1, .int .i64 a2, .string a3] w (RetB true w) := by
  have HG0 := Lib.hid hg0; clear hg0
  have hB := Below.refl w.heap.size w
  by_cases hs3 : (1048576 : Int) < a3.size
  · go_enter Try.func3, Try.ntmps3
    go_wp2
    go_ret
    exact ⟨rfl, Below.refl _ _⟩
  have hs3' : a3.size ≤ 1048576 := by omega
  go_enter Try.func3, Try.ntmps3
  go_wp2_with fail
  refine (l_szVersionS A0 n0 c0 l0 _ _ (hr0.below hB) hn0 HG0.out (by omega) (by omega)).mono ?_
  rintro e w1 ⟨r0, rfl, hb, hlo0, hq0⟩
  replace hB := hB.trans (hb.mono hB.size)
  have z1 := hb.size
  clear hb
  by_cases hneg0 : r0 < 0
  · obtain rfl : r0 = -1 := by omega
    clear hq0
    go_wp2
    go_ret
    exact ⟨rfl, hB⟩
  have hp0 := hq0 (by omega)
  have hpp0 := sumVersion_nonneg l0
  have hb0 : n0 ≤ 1048576 := by omega
  have hsum0 : sumVersion l0 ≤ 1048576 := by omega
  have hcnt0 : cntV l0 ≤ 8388608 := by have := cnt_sum l0; have := hr0.len; omega
  have HL0 : Hid (∀ x ∈ l0, x.fState.length ≤ maxLen) := Lib.hid fun x hx => (HG0.out x hx).2.2.2.1
  have HL1 : Hid (∀ x ∈ (mvV l0 a1 a2 a3).1, x.fState.length ≤ maxLen) := Lib.hid fun x hx => by have := (mv_few l0 a1 a2 a3).2 x hx; unfold maxLen; omega
  have hcnt1 : cntV (mvV l0 a1 a2 a3).1 ≤ 1632 := by have := cnt_few (mv_few l0 a1 a2 a3).2; have := (mv_few l0 a1 a2 a3).1; omega
  clear hp0 hpp0 hq0 hlo0
  go_wp2_with fail
  refine (l_toVersionS A0 n0 c0 l0 _ (hr0.below hB) hb0 hsum0).mono ?_
  rintro e w2 ⟨At1, ct1, Ft1, rfl, hFt1, hOt1, hb⟩
  replace hB := hB.trans (hb.mono hB.size)
  have z2 : w1.heap.size ≤ w2.heap.size := hb.size
  clear hb
  go_wp2_with fail
  refine (S_MergeVersions At1 n0 ct1 l0 a1 a2 a3 _ hOt1.rd hb0 HG0.out ⟨lo1, hi1⟩ ⟨lo2, hi2⟩ hs3').mono ?_
  rintro e w3 ⟨Aw0, nw0, cw0, Fw0, rfl, hFw0, hOw0, hlw0, hb⟩
  have hn33 : nw0 ≤ 32 := by rw [← hlw0]; exact (mv_few l0 a1 a2 a3).1
  replace hB := hB.trans (hb.mono hB.size)
  have z3 : w2.heap.size ≤ w3.heap.size := hb.size
  clear hb
  go_wp2_with fail
  refine (l_toVersionS A0 n0 c0 l0 _ (hr0.below hB) hb0 hsum0).mono ?_
  rintro e w4 ⟨Ax0, cx0, Fx0, rfl, hFx0, hOx0, hb⟩
  replace hB := hB.trans (hb.mono hB.size)
  have z4 : w3.heap.size ≤ w4.heap.size := hb.size
  replace hOw0 := hOw0.below hb
  clear hb
  go_wp2_with fail
  refine (I_MergeVersions Ax0 n0 cx0 l0 a1 a2 a3 _ hOx0.rd hb0 HG0.out ⟨lo1, hi1⟩ ⟨lo2, hi2⟩ hs3').mono ?_
  rintro e w5 ⟨Ag0, ng0, cg0, Fg0, rfl, hFg0, hOg0, hlg0, hb⟩
  obtain rfl : nw0 = ng0 := hlw0.symm.trans hlg0
  clear hlg0
  replace hB := hB.trans (hb.mono hB.size)
  have z5 : w4.heap.size ≤ w5.heap.size := hb.size
  replace hOw0 := hOw0.below hb
  replace hOx0 := hOx0.below hb
  clear hb
  go_wp2_with fail
  refine (l_eqVersionS Ag0 Aw0 _ cg0 cw0 _ _ hOg0.rd hOw0.rd (by unfold maxLen; omega) HL1.out).mono ?_
  rintro e w6 ⟨rfl, hb⟩
  replace hB := hB.trans (hb.mono hB.size)
  have z6 : w5.heap.size ≤ w6.heap.size := hb.size
  replace hOw0 := hOw0.below hb
  replace hOx0 := hOx0.below hb
  replace hOg0 := hOg0.below hb
  clear hb
  go_wp2_with fail
  refine (l_toVersionS A0 n0 c0 l0 _ (hr0.below hB) hb0 hsum0).mono ?_
  rintro e w7 ⟨At2, ct2, Ft2, rfl, hFt2, hOt2, hb⟩
  replace hB := hB.trans (hb.mono hB.size)
  have z7 : w6.heap.size ≤ w7.heap.size := hb.size
  replace hOw0 := hOw0.below hb
  replace hOx0 := hOx0.below hb
  replace hOg0 := hOg0.below hb
  clear hb
  go_wp2_with fail
  refine (l_eqVersionS Ax0 At2 _ cx0 ct2 _ _ hOx0.rd hOt2.rd (by unfold maxLen; omega) HL0.out).mono ?_
  rintro e w8 ⟨rfl, hb⟩
  replace hB := hB.trans (hb.mono hB.size)
  have z8 : w7.heap.size ≤ w8.heap.size := hb.size
  replace hOw0 := hOw0.below hb
  replace hOx0 := hOx0.below hb
  replace hOg0 := hOg0.below hb
  replace hOt2 := hOt2.below hb
  clear hb
  go_wp2_with fail
  refine (l_markVersionS Fx0 Ax0 _ cx0 _ 1 _ hOx0 hb0 (by omega) hcnt0).mono ?_
  rintro e w9 ⟨rfl, hOx0, ht⟩
  replace hOw0 := hOw0.touch ht (fun k h1 h2 => by have := hFw0 k h1; have := hFx0 k h2; omega)
  replace hOg0 := hOg0.touch ht (fun k h1 h2 => by have := hFg0 k h1; have := hFx0 k h2; omega)
  replace hB := Below.touch hB ht (fun k hk => by have := hFx0 k hk; omega) (by omega)
  have z9 := ht.size
  clear ht
  go_wp2_with fail
  refine (l_eqVersionS Ag0 Aw0 _ cg0 cw0 _ _ hOg0.rd hOw0.rd (by unfold maxLen; omega) HL1.out).mono ?_
  rintro e w10 ⟨rfl, hb⟩
  replace hB := hB.trans (hb.mono hB.size)
  have z10 : w9.heap.size ≤ w10.heap.size := hb.size
  replace hOw0 := hOw0.below hb
  replace hOx0 := hOx0.below hb
  replace hOg0 := hOg0.below hb
  clear hb
  go_wp2_with fail
  refine (l_markVersionS Fg0 Ag0 _ cg0 _ 1 _ hOg0 (by omega) (by omega) (by omega)).mono ?_
  rintro e w11 ⟨rfl, hOg0, ht⟩
  replace hOw0 := hOw0.touch ht (fun k h1 h2 => by have := hFw0 k h1; have := hFg0 k h2; omega)
  replace hOx0 := hOx0.touch ht (fun k h1 h2 => by have := hFx0 k h1; have := hFg0 k h2; omega)
  replace hB := Below.touch hB ht (fun k hk => by have := hFg0 k hk; omega) (by omega)
  have z11 := ht.size
  clear ht
  go_wp2_with fail
  refine (l_heldVersionS Fg0 Ag0 _ cg0 _ 1 _ hOg0 (by omega) (by omega) (by omega)).mono ?_
  rintro e w12 ⟨rfl, hb⟩
  replace hB := hB.trans (hb.mono hB.size)
  have z12 : w11.heap.size ≤ w12.heap.size := hb.size
  replace hOw0 := hOw0.below hb
  replace hOx0 := hOx0.below hb
  replace hOg0 := hOg0.below hb
  clear hb
  go_wp2_with fail
  refine (l_toVersionS A0 n0 c0 l0 _ (hr0.below hB) hb0 hsum0).mono ?_
  rintro e w13 ⟨At3, ct3, Ft3, rfl, hFt3, hOt3, hb⟩
  replace hB := hB.trans (hb.mono hB.size)
  have z13 : w12.heap.size ≤ w13.heap.size := hb.size
  replace hOw0 := hOw0.below hb
  replace hOx0 := hOx0.below hb
  replace hOg0 := hOg0.below hb
  clear hb
  go_wp2_with fail
  refine (I_MergeVersions At3 n0 ct3 l0 a1 a2 a3 _ hOt3.rd hb0 HG0.out ⟨lo1, hi1⟩ ⟨lo2, hi2⟩ hs3').mono ?_
  rintro e w14 ⟨Ah0, nh0, ch0, Fh0, rfl, hFh0, hOh0, hlh0, hb⟩
  obtain rfl : nw0 = nh0 := hlw0.symm.trans hlh0
  clear hlh0
  replace hB := hB.trans (hb.mono hB.size)
  have z14 : w13.heap.size ≤ w14.heap.size := hb.size
  replace hOw0 := hOw0.below hb
  replace hOx0 := hOx0.below hb
  replace hOg0 := hOg0.below hb
  clear hb
  go_wp2_with fail
  refine (l_eqVersionS Ah0 Aw0 _ ch0 cw0 _ _ hOh0.rd hOw0.rd (by unfold maxLen; omega) HL1.out).mono ?_
  rintro e w15 ⟨rfl, hb⟩
  replace hB := hB.trans (hb.mono hB.size)
  have z15 : w14.heap.size ≤ w15.heap.size := hb.size
  replace hOw0 := hOw0.below hb
  replace hOx0 := hOx0.below hb
  replace hOg0 := hOg0.below hb
  replace hOh0 := hOh0.below hb
  clear hb
  go_wp2_with fail
  refine (l_heldVersionS Fg0 Ag0 _ cg0 _ 1 _ hOg0 (by omega) (by omega) (by omega)).mono ?_
  rintro e w16 ⟨rfl, hb⟩
  replace hB := hB.trans (hb.mono hB.size)
  have z16 : w15.heap.size ≤ w16.heap.size := hb.size
  replace hOw0 := hOw0.below hb
  replace hOx0 := hOx0.below hb
  replace hOg0 := hOg0.below hb
  replace hOh0 := hOh0.below hb
  clear hb
  go_wp2
  go_ret
  exact ⟨rfl, hB⟩

end Go.Proofs.Ytfabijhilfjkcaa
