/- The walk of the law on MixedDuties, printed by a program of mine off the law's text. -/
import Derived.Test.YtepegiklnhoobaaRows
import Derived.Test.YtepegiklnhoobaaCRole
import Derived.Test.YtepegiklnhoobaaCGrant
import Derived.Test.YtepegiklnhoobaaMix
namespace Go.Proofs.Ytepegiklnhoobaa
set_option linter.unusedVariables false
set_option linter.unusedSimpArgs false
set_option linter.unusedSectionVars false
open Go.RowKit

set_option maxRecDepth 100000 in
set_option maxHeartbeats 4000000 in
theorem w_MixedDuties (A0 : Option Addr) (n0 c0 : Nat) (l0 : List DRole) (A1 : Option Addr) (n1 c1 : Nat) (l1 : List DGrant) (a2 : DGrant) (a3 : DGrant) (w : World) (hr0 : RdRole w A0 n0 l0) (hn0 : n0 ≤ maxLen) (hg0 : ∀ x ∈ l0, DRole.good x) (hr1 : Rd grantE w A1 n1 l1) (hn1 : n1 ≤ maxLen) (hg1 : ∀ x ∈ l1, x.good) (wf2 : a2.good) (wf3 : a3.good) :
    Calls Try.prog 8 #[.slice A0 n0 c0, .slice A1 n1 c1, DGrant.val a2, DGrant.val a3] w (RetB true w) := by
  unfold DGrant.val
  have HG0 := Lib.hid hg0; clear hg0
  have HG1 := Lib.hid hg1; clear hg1
  have hB := Below.refl w.heap.size w
  have R2 := range_new w #[.string a2.fRole, .string a2.fObject, .int .i64 a2.fAction] 46
  have R3 := range_new (w.alloc (.cells #[.string a2.fRole, .string a2.fObject, .int .i64 a2.fAction] 46)) #[.string a3.fRole, .string a3.fObject, .int .i64 a3.fAction] 46
  rw [show (w.alloc (.cells #[.string a2.fRole, .string a2.fObject, .int .i64 a2.fAction] 46)).heap.size = w.heap.size + 1 by simp] at R3
  replace R2 := World.rangeAt_alloc R2 (.cells #[.string a3.fRole, .string a3.fObject, .int .i64 a3.fAction] 46)
  have hx2_0 : ((w.alloc (.cells #[.string a2.fRole, .string a2.fObject, .int .i64 a2.fAction] 46)).alloc (.cells #[.string a3.fRole, .string a3.fObject, .int .i64 a3.fAction] 46)).cell? ⟨w.heap.size, 0, none⟩ = some (.string a2.fRole) := R2 0 _ rfl
  have hx2_1 : ((w.alloc (.cells #[.string a2.fRole, .string a2.fObject, .int .i64 a2.fAction] 46)).alloc (.cells #[.string a3.fRole, .string a3.fObject, .int .i64 a3.fAction] 46)).cell? ⟨w.heap.size, 1, none⟩ = some (.string a2.fObject) := R2 1 _ rfl
  have hx2_2 : ((w.alloc (.cells #[.string a2.fRole, .string a2.fObject, .int .i64 a2.fAction] 46)).alloc (.cells #[.string a3.fRole, .string a3.fObject, .int .i64 a3.fAction] 46)).cell? ⟨w.heap.size, 2, none⟩ = some (.int .i64 a2.fAction) := R2 2 _ rfl
  clear R2
  have hx3_0 : ((w.alloc (.cells #[.string a2.fRole, .string a2.fObject, .int .i64 a2.fAction] 46)).alloc (.cells #[.string a3.fRole, .string a3.fObject, .int .i64 a3.fAction] 46)).cell? ⟨w.heap.size + 1, 0, none⟩ = some (.string a3.fRole) := R3 0 _ rfl
  have hx3_1 : ((w.alloc (.cells #[.string a2.fRole, .string a2.fObject, .int .i64 a2.fAction] 46)).alloc (.cells #[.string a3.fRole, .string a3.fObject, .int .i64 a3.fAction] 46)).cell? ⟨w.heap.size + 1, 1, none⟩ = some (.string a3.fObject) := R3 1 _ rfl
  have hx3_2 : ((w.alloc (.cells #[.string a2.fRole, .string a2.fObject, .int .i64 a2.fAction] 46)).alloc (.cells #[.string a3.fRole, .string a3.fObject, .int .i64 a3.fAction] 46)).cell? ⟨w.heap.size + 1, 2, none⟩ = some (.int .i64 a3.fAction) := R3 2 _ rfl
  clear R3
  replace hB : Below w.heap.size w ((w.alloc (.cells #[.string a2.fRole, .string a2.fObject, .int .i64 a2.fAction] 46)).alloc (.cells #[.string a3.fRole, .string a3.fObject, .int .i64 a3.fAction] 46)) := by (repeat (first | exact Below.refl _ _ | assumption | refine Below.drew ?_ | refine Below.alloc ?_ (by first | omega | (simp; done) | (simp; omega) | exact Below.size (by assumption)) _ | refine Below.setCell ?_ (by first | omega | (simp; done) | (simp; omega)) _))
  have z0 : w.heap.size + 2 ≤ ((w.alloc (.cells #[.string a2.fRole, .string a2.fObject, .int .i64 a2.fAction] 46)).alloc (.cells #[.string a3.fRole, .string a3.fObject, .int .i64 a3.fAction] 46)).heap.size := by simp
  have HX2_0 := Lib.hid hx2_0; clear hx2_0
  have HX2_1 := Lib.hid hx2_1; clear hx2_1
  have HX2_2 := Lib.hid hx2_2; clear hx2_2
  have HX3_0 := Lib.hid hx3_0; clear hx3_0
  have HX3_1 := Lib.hid hx3_1; clear hx3_1
  have HX3_2 := Lib.hid hx3_2; clear hx3_2
  go_enter Try.func8, Try.ntmps8
  go_wp2_with fail
  refine (l_szRoleS A0 n0 c0 l0 _ _ (hr0.below hB) hn0 HG0.out (by omega) (by omega)).mono ?_
  rintro e w1 ⟨r0, rfl, hb, hlo0, hq0⟩
  replace hB := hB.trans (hb.mono hB.size)
  have z1 := hb.size
  have hx2_0 := cell_later hb HX2_0.out; clear HX2_0
  have hx2_1 := cell_later hb HX2_1.out; clear HX2_1
  have hx2_2 := cell_later hb HX2_2.out; clear HX2_2
  have hx3_0 := cell_later hb HX3_0.out; clear HX3_0
  have hx3_1 := cell_later hb HX3_1.out; clear HX3_1
  have hx3_2 := cell_later hb HX3_2.out; clear HX3_2
  clear hb
  by_cases hneg0 : r0 < 0
  · obtain rfl : r0 = -1 := by omega
    clear hq0
    go_wp2
    go_ret
    exact ⟨rfl, hB⟩
  have hp0 := hq0 (by omega)
  have hpp0 := sumRole_nonneg l0
  have hb0 : n0 ≤ 1048576 := by omega
  have hsum0 : sumRole l0 ≤ 1048576 := by omega
  have hr0' : r0 ≤ 1048576 := by omega
  clear hp0 hpp0 hq0 hlo0
  go_wp2_with fail
  refine (l_szGrantS A1 n1 c1 l1 _ _ (hr1.below hB) hn1 HG1.out (by omega) (by omega)).mono ?_
  rintro e w2 ⟨r1, rfl, hb, hlo1, hq1⟩
  replace hB := hB.trans (hb.mono hB.size)
  have z2 : w1.heap.size ≤ w2.heap.size := hb.size
  replace hx2_0 := cell_later hb hx2_0
  replace hx2_1 := cell_later hb hx2_1
  replace hx2_2 := cell_later hb hx2_2
  replace hx3_0 := cell_later hb hx3_0
  replace hx3_1 := cell_later hb hx3_1
  replace hx3_2 := cell_later hb hx3_2
  clear hb
  by_cases hneg1 : r1 < 0
  · obtain rfl : r1 = -1 := by omega
    clear hq1
    go_wp2
    go_ret
    exact ⟨rfl, hB⟩
  have hp1 := hq1 (by omega)
  have hpp1 := sumGrant_nonneg l1
  have hb1 : n1 ≤ 1048576 := by omega
  have hsum1 : sumGrant l1 ≤ 1048576 := by omega
  have hr1' : r1 ≤ 1048576 := by omega
  clear hp1 hpp1 hq1 hlo1
  go_wp2_with fail
  refine (l_szGrant a2 _ _ wf2 (by omega) (by omega)).mono ?_
  rintro e w3 ⟨r2, rfl, hb, hlo2, hq2⟩
  replace hB := hB.trans (hb.mono hB.size)
  have z3 : w2.heap.size ≤ w3.heap.size := hb.size
  replace hx2_0 := cell_later hb hx2_0
  replace hx2_1 := cell_later hb hx2_1
  replace hx2_2 := cell_later hb hx2_2
  replace hx3_0 := cell_later hb hx3_0
  replace hx3_1 := cell_later hb hx3_1
  replace hx3_2 := cell_later hb hx3_2
  clear hb
  by_cases hneg2 : r2 < 0
  · obtain rfl : r2 = -1 := by omega
    clear hq2
    go_wp2
    go_ret
    exact ⟨rfl, hB⟩
  have hp2 := hq2 (by omega)
  have hpp2 := DGrant.sz_nonneg a2
  have hz2 : DGrant.sz a2 ≤ 1048576 := by omega
  have hr2' : r2 ≤ 1048576 := by omega
  clear hp2 hpp2 hq2 hlo2
  go_wp2_with fail
  refine (l_szGrant a3 _ _ wf3 (by omega) (by omega)).mono ?_
  rintro e w4 ⟨r3, rfl, hb, hlo3, hq3⟩
  replace hB := hB.trans (hb.mono hB.size)
  have z4 : w3.heap.size ≤ w4.heap.size := hb.size
  replace hx2_0 := cell_later hb hx2_0
  replace hx2_1 := cell_later hb hx2_1
  replace hx2_2 := cell_later hb hx2_2
  replace hx3_0 := cell_later hb hx3_0
  replace hx3_1 := cell_later hb hx3_1
  replace hx3_2 := cell_later hb hx3_2
  clear hb
  by_cases hneg3 : r3 < 0
  · obtain rfl : r3 = -1 := by omega
    clear hq3
    go_wp2
    go_ret
    exact ⟨rfl, hB⟩
  have hp3 := hq3 (by omega)
  have hpp3 := DGrant.sz_nonneg a3
  have hz3 : DGrant.sz a3 ≤ 1048576 := by omega
  have hr3' : r3 ≤ 1048576 := by omega
  clear hp3 hpp3 hq3 hlo3
  go_wp2_with fail
  replace hB := hB.drew
  go_region_held3 (fun w' => w'.cell? ⟨w.heap.size, 0, none⟩ = some (.string a2.fRole) ∧ w'.cell? ⟨w.heap.size, 1, none⟩ = some (.string a2.fObject) ∧ w'.cell? ⟨w.heap.size, 2, none⟩ = some (.int .i64 a2.fAction) ∧ w'.cell? ⟨w.heap.size + 1, 0, none⟩ = some (.string a3.fRole) ∧ w'.cell? ⟨w.heap.size + 1, 1, none⟩ = some (.string a3.fObject) ∧ w'.cell? ⟨w.heap.size + 1, 2, none⟩ = some (.int .i64 a3.fAction)) (go_keep) (first | (clear mk4; go_at_call 38; refine (S_MixedDuties At1 n0 ct1 l0 At2 n1 ct2 l1 a2 a3 _ hOt1.rd hb0 HG0.out hsum0 hOt2.rd hb1 HG1.out hsum1 wf2 hz2 wf3 hz3).mono ?_; rintro e w9 ⟨Aw0, nw0, cw0, hlw0, hnw0, how0, rfl, hb⟩; obtain ⟨Fw0, hFw0, hOw0⟩ := OL.of_own how0 hlw0; replace hB := hB.trans (hb.mono hB.size); have z9 : w8.heap.size ≤ w9.heap.size := hb.size; replace hx2_0 := cell_later hb hx2_0; replace hx2_1 := cell_later hb hx2_1; replace hx2_2 := cell_later hb hx2_2; replace hx3_0 := cell_later hb hx3_0; replace hx3_1 := cell_later hb hx3_1; replace hx3_2 := cell_later hb hx3_2; clear hb) | (clear mk3; go_at_call 34; refine (l_toGrant a3 _).mono ?_; rintro e w8 ⟨rfl, hb⟩; replace hB := hB.trans (hb.mono hB.size); have z8 : w7.heap.size ≤ w8.heap.size := hb.size; replace hOt1 := hOt1.below hb; replace hOt2 := hOt2.below hb; replace hx2_0 := cell_later hb hx2_0; replace hx2_1 := cell_later hb hx2_1; replace hx2_2 := cell_later hb hx2_2; replace hx3_0 := cell_later hb hx3_0; replace hx3_1 := cell_later hb hx3_1; replace hx3_2 := cell_later hb hx3_2; clear hb; have mk4 : True := trivial) | (clear mk2; go_at_call 34; refine (l_toGrant a2 _).mono ?_; rintro e w7 ⟨rfl, hb⟩; replace hB := hB.trans (hb.mono hB.size); have z7 : w6.heap.size ≤ w7.heap.size := hb.size; replace hOt1 := hOt1.below hb; replace hOt2 := hOt2.below hb; replace hx2_0 := cell_later hb hx2_0; replace hx2_1 := cell_later hb hx2_1; replace hx2_2 := cell_later hb hx2_2; replace hx3_0 := cell_later hb hx3_0; replace hx3_1 := cell_later hb hx3_1; replace hx3_2 := cell_later hb hx3_2; clear hb; have mk3 : True := trivial) | (clear mk1; go_at_call 27; refine (l_toGrantS A1 n1 c1 l1 _ (hr1.below hB) hb1).mono ?_; rintro e w6 ⟨At2, ct2, rfl, hl, ho, hb⟩; obtain ⟨Ft2, hFt2, hOt2⟩ := OL.of_own ho hl; clear ho hl; replace hB := hB.trans (hb.mono hB.size); have z6 : w5.heap.size ≤ w6.heap.size := hb.size; replace hOt1 := hOt1.below hb; replace hx2_0 := cell_later hb hx2_0; replace hx2_1 := cell_later hb hx2_1; replace hx2_2 := cell_later hb hx2_2; replace hx3_0 := cell_later hb hx3_0; replace hx3_1 := cell_later hb hx3_1; replace hx3_2 := cell_later hb hx3_2; clear hb; have mk2 : True := trivial) | (go_at_call 16; refine (l_toRoleS A0 n0 c0 l0 _ (hr0.below hB) hb0 hsum0).mono ?_; rintro e w5 ⟨At1, ct1, Ft1, rfl, hFt1, hOt1, hb⟩; replace hB := hB.trans (hb.mono hB.size); have z5 : w4.heap.size ≤ w5.heap.size := hb.size; replace hx2_0 := cell_later hb hx2_0; replace hx2_1 := cell_later hb hx2_1; replace hx2_2 := cell_later hb hx2_2; replace hx3_0 := cell_later hb hx3_0; replace hx3_1 := cell_later hb hx3_1; replace hx3_2 := cell_later hb hx3_2; clear hb; have mk1 : True := trivial))
  go_wp2_with fail
  refine (l_toRoleS A0 n0 c0 l0 _ (hr0.below hB) hb0 hsum0).mono ?_
  rintro e w10 ⟨Ax0, cx0, Fx0, rfl, hFx0, hOx0, hb⟩
  replace hB := hB.trans (hb.mono hB.size)
  have z10 : w9.heap.size ≤ w10.heap.size := hb.size
  replace hOw0 := hOw0.below hb
  replace hx2_0 := cell_later hb hx2_0
  replace hx2_1 := cell_later hb hx2_1
  replace hx2_2 := cell_later hb hx2_2
  replace hx3_0 := cell_later hb hx3_0
  replace hx3_1 := cell_later hb hx3_1
  replace hx3_2 := cell_later hb hx3_2
  clear hb
  go_wp2_with fail
  refine (l_toGrantS A1 n1 c1 l1 _ (hr1.below hB) hb1).mono ?_
  rintro e w11 ⟨Ax1, cx1, rfl, hl, ho, hb⟩
  obtain ⟨Fx1, hFx1, hOx1⟩ := OL.of_own ho hl
  clear ho hl
  replace hB := hB.trans (hb.mono hB.size)
  have z11 : w10.heap.size ≤ w11.heap.size := hb.size
  replace hOw0 := hOw0.below hb
  replace hOx0 := hOx0.below hb
  replace hx2_0 := cell_later hb hx2_0
  replace hx2_1 := cell_later hb hx2_1
  replace hx2_2 := cell_later hb hx2_2
  replace hx3_0 := cell_later hb hx3_0
  replace hx3_1 := cell_later hb hx3_1
  replace hx3_2 := cell_later hb hx3_2
  clear hb
  go_wp2_with fail
  replace hB := hB.drew
  replace hOw0 := hOw0.below ((Below.refl _ _).drew)
  replace hOx0 := hOx0.below ((Below.refl _ _).drew)
  replace hOx1 := hOx1.below ((Below.refl _ _).drew)
  go_region_held3 (fun w' => w'.cell? ⟨w.heap.size, 0, none⟩ = some (.string a2.fRole) ∧ w'.cell? ⟨w.heap.size, 1, none⟩ = some (.string a2.fObject) ∧ w'.cell? ⟨w.heap.size, 2, none⟩ = some (.int .i64 a2.fAction) ∧ w'.cell? ⟨w.heap.size + 1, 0, none⟩ = some (.string a3.fRole) ∧ w'.cell? ⟨w.heap.size + 1, 1, none⟩ = some (.string a3.fObject) ∧ w'.cell? ⟨w.heap.size + 1, 2, none⟩ = some (.int .i64 a3.fAction)) (go_keep) (first | (clear mk2; go_at_call 39; refine (I_MixedDuties Ax0 n0 cx0 l0 Ax1 n1 cx1 l1 a2 a3 _ hOx0.rd hb0 HG0.out hsum0 hOx1.rd hb1 HG1.out hsum1 wf2 hz2 wf3 hz3).mono ?_; rintro e w14 ⟨Ag0, ng0, cg0, hlg0, hng0, hog0, rfl, hb⟩; obtain ⟨Fg0, hFg0, hOg0⟩ := OL.of_own hog0 hlg0; obtain rfl : nw0 = ng0 := hlw0.symm.trans hlg0; clear hog0 hlg0; replace hB := hB.trans (hb.mono hB.size); have z14 : w13.heap.size ≤ w14.heap.size := hb.size; replace hOw0 := hOw0.below hb; replace hOx0 := hOx0.below hb; replace hOx1 := hOx1.below hb; replace hx2_0 := cell_later hb hx2_0; replace hx2_1 := cell_later hb hx2_1; replace hx2_2 := cell_later hb hx2_2; replace hx3_0 := cell_later hb hx3_0; replace hx3_1 := cell_later hb hx3_1; replace hx3_2 := cell_later hb hx3_2; clear hb) | (clear mk1; go_at_call 34; refine (l_toGrant a3 _).mono ?_; rintro e w13 ⟨rfl, hb⟩; replace hB := hB.trans (hb.mono hB.size); have z13 : w12.heap.size ≤ w13.heap.size := hb.size; replace hOw0 := hOw0.below hb; replace hOx0 := hOx0.below hb; replace hOx1 := hOx1.below hb; replace hx2_0 := cell_later hb hx2_0; replace hx2_1 := cell_later hb hx2_1; replace hx2_2 := cell_later hb hx2_2; replace hx3_0 := cell_later hb hx3_0; replace hx3_1 := cell_later hb hx3_1; replace hx3_2 := cell_later hb hx3_2; clear hb; have mk2 : True := trivial) | (go_at_call 34; refine (l_toGrant a2 _).mono ?_; rintro e w12 ⟨rfl, hb⟩; replace hB := hB.trans (hb.mono hB.size); have z12 : w11.heap.size ≤ w12.heap.size := hb.size; replace hOw0 := hOw0.below hb; replace hOx0 := hOx0.below hb; replace hOx1 := hOx1.below hb; replace hx2_0 := cell_later hb hx2_0; replace hx2_1 := cell_later hb hx2_1; replace hx2_2 := cell_later hb hx2_2; replace hx3_0 := cell_later hb hx3_0; replace hx3_1 := cell_later hb hx3_1; replace hx3_2 := cell_later hb hx3_2; clear hb; have mk1 : True := trivial))
  go_wp2_with fail
  refine (l_eqStringS Ag0 Aw0 _ cg0 cw0 _ _ hOg0.rd hOw0.rd hOg0.max).mono ?_
  rintro e w15 ⟨rfl, hb⟩
  replace hB := hB.trans (hb.mono hB.size)
  have z15 : w14.heap.size ≤ w15.heap.size := hb.size
  replace hOw0 := hOw0.below hb
  replace hOx0 := hOx0.below hb
  replace hOx1 := hOx1.below hb
  replace hOg0 := hOg0.below hb
  replace hx2_0 := cell_later hb hx2_0
  replace hx2_1 := cell_later hb hx2_1
  replace hx2_2 := cell_later hb hx2_2
  replace hx3_0 := cell_later hb hx3_0
  replace hx3_1 := cell_later hb hx3_1
  replace hx3_2 := cell_later hb hx3_2
  clear hb
  go_wp2_with fail
  refine (l_toRoleS A0 n0 c0 l0 _ (hr0.below hB) hb0 hsum0).mono ?_
  rintro e w16 ⟨At3, ct3, Ft3, rfl, hFt3, hOt3, hb⟩
  replace hB := hB.trans (hb.mono hB.size)
  have z16 : w15.heap.size ≤ w16.heap.size := hb.size
  replace hOw0 := hOw0.below hb
  replace hOx0 := hOx0.below hb
  replace hOx1 := hOx1.below hb
  replace hOg0 := hOg0.below hb
  replace hx2_0 := cell_later hb hx2_0
  replace hx2_1 := cell_later hb hx2_1
  replace hx2_2 := cell_later hb hx2_2
  replace hx3_0 := cell_later hb hx3_0
  replace hx3_1 := cell_later hb hx3_1
  replace hx3_2 := cell_later hb hx3_2
  clear hb
  go_wp2_with fail
  refine (l_eqRoleS Ax0 At3 _ cx0 ct3 _ _ hOx0.rd hOt3.rd hOx0.max HG0.out).mono ?_
  rintro e w17 ⟨rfl, hb⟩
  replace hB := hB.trans (hb.mono hB.size)
  have z17 : w16.heap.size ≤ w17.heap.size := hb.size
  replace hOw0 := hOw0.below hb
  replace hOx0 := hOx0.below hb
  replace hOx1 := hOx1.below hb
  replace hOg0 := hOg0.below hb
  replace hOt3 := hOt3.below hb
  replace hx2_0 := cell_later hb hx2_0
  replace hx2_1 := cell_later hb hx2_1
  replace hx2_2 := cell_later hb hx2_2
  replace hx3_0 := cell_later hb hx3_0
  replace hx3_1 := cell_later hb hx3_1
  replace hx3_2 := cell_later hb hx3_2
  clear hb
  go_wp2_with fail
  refine (l_toGrantS A1 n1 c1 l1 _ (hr1.below hB) hb1).mono ?_
  rintro e w18 ⟨At4, ct4, rfl, hl, ho, hb⟩
  obtain ⟨Ft4, hFt4, hOt4⟩ := OL.of_own ho hl
  clear ho hl
  replace hB := hB.trans (hb.mono hB.size)
  have z18 : w17.heap.size ≤ w18.heap.size := hb.size
  replace hOw0 := hOw0.below hb
  replace hOx0 := hOx0.below hb
  replace hOx1 := hOx1.below hb
  replace hOg0 := hOg0.below hb
  replace hx2_0 := cell_later hb hx2_0
  replace hx2_1 := cell_later hb hx2_1
  replace hx2_2 := cell_later hb hx2_2
  replace hx3_0 := cell_later hb hx3_0
  replace hx3_1 := cell_later hb hx3_1
  replace hx3_2 := cell_later hb hx3_2
  clear hb
  go_wp2_with fail
  refine (l_eqGrantS Ax1 At4 _ cx1 ct4 _ _ hOx1.rd hOt4.rd hOx1.max).mono ?_
  rintro e w19 ⟨rfl, hb⟩
  replace hB := hB.trans (hb.mono hB.size)
  have z19 : w18.heap.size ≤ w19.heap.size := hb.size
  replace hOw0 := hOw0.below hb
  replace hOx0 := hOx0.below hb
  replace hOx1 := hOx1.below hb
  replace hOg0 := hOg0.below hb
  replace hOt4 := hOt4.below hb
  replace hx2_0 := cell_later hb hx2_0
  replace hx2_1 := cell_later hb hx2_1
  replace hx2_2 := cell_later hb hx2_2
  replace hx3_0 := cell_later hb hx3_0
  replace hx3_1 := cell_later hb hx3_1
  replace hx3_2 := cell_later hb hx3_2
  clear hb
  go_wp2_with fail
  refine (l_markRoleS Fx0 Ax0 _ cx0 _ _ _ hOx0 (by omega) (by omega) (by omega) hsum0).mono ?_
  rintro e w20 ⟨qx0, lmx0, hq0x0, hq1x0, rfl, hOx0, ht⟩
  replace hOw0 := hOw0.touch ht (fun k h1 h2 => by have := hFw0 k h1; have := hFx0 k h2; omega)
  replace hOx1 := hOx1.touch ht (fun k h1 h2 => by have := hFx1 k h1; have := hFx0 k h2; omega)
  replace hOg0 := hOg0.touch ht (fun k h1 h2 => by have := hFg0 k h1; have := hFx0 k h2; omega)
  replace hx2_0 := touch_cell ht (fun h => by have := hFx0 _ h; simp at this; omega) hx2_0
  replace hx2_1 := touch_cell ht (fun h => by have := hFx0 _ h; simp at this; omega) hx2_1
  replace hx2_2 := touch_cell ht (fun h => by have := hFx0 _ h; simp at this; omega) hx2_2
  replace hx3_0 := touch_cell ht (fun h => by have := hFx0 _ h; simp at this; omega) hx3_0
  replace hx3_1 := touch_cell ht (fun h => by have := hFx0 _ h; simp at this; omega) hx3_1
  replace hx3_2 := touch_cell ht (fun h => by have := hFx0 _ h; simp at this; omega) hx3_2
  replace hB := Below.touch hB ht (fun k hk => by have := hFx0 k hk; omega) (by omega)
  have z20 := ht.size
  clear ht
  go_wp2_with fail
  refine (l_markGrantS Fx1 Ax1 _ cx1 _ _ _ hOx1 (by omega) (by omega) (by omega)).mono ?_
  rintro e w21 ⟨rfl, hOx1, ht⟩
  replace hOw0 := hOw0.touch ht (fun k h1 h2 => by have := hFw0 k h1; have := hFx1 k h2; omega)
  replace hOx0 := hOx0.touch ht (fun k h1 h2 => by have := hFx0 k h1; have := hFx1 k h2; omega)
  replace hOg0 := hOg0.touch ht (fun k h1 h2 => by have := hFg0 k h1; have := hFx1 k h2; omega)
  replace hx2_0 := touch_cell ht (fun h => by have := hFx1 _ h; simp at this; omega) hx2_0
  replace hx2_1 := touch_cell ht (fun h => by have := hFx1 _ h; simp at this; omega) hx2_1
  replace hx2_2 := touch_cell ht (fun h => by have := hFx1 _ h; simp at this; omega) hx2_2
  replace hx3_0 := touch_cell ht (fun h => by have := hFx1 _ h; simp at this; omega) hx3_0
  replace hx3_1 := touch_cell ht (fun h => by have := hFx1 _ h; simp at this; omega) hx3_1
  replace hx3_2 := touch_cell ht (fun h => by have := hFx1 _ h; simp at this; omega) hx3_2
  replace hB := Below.touch hB ht (fun k hk => by have := hFx1 k hk; omega) (by omega)
  have z21 := ht.size
  clear ht
  go_wp2_with fail
  refine (l_eqStringS Ag0 Aw0 _ cg0 cw0 _ _ hOg0.rd hOw0.rd hOg0.max).mono ?_
  rintro e w22 ⟨rfl, hb⟩
  replace hB := hB.trans (hb.mono hB.size)
  have z22 : w21.heap.size ≤ w22.heap.size := hb.size
  replace hOw0 := hOw0.below hb
  replace hOx0 := hOx0.below hb
  replace hOx1 := hOx1.below hb
  replace hOg0 := hOg0.below hb
  replace hx2_0 := cell_later hb hx2_0
  replace hx2_1 := cell_later hb hx2_1
  replace hx2_2 := cell_later hb hx2_2
  replace hx3_0 := cell_later hb hx3_0
  replace hx3_1 := cell_later hb hx3_1
  replace hx3_2 := cell_later hb hx3_2
  clear hb
  go_wp2_with fail
  refine (l_markStringS Fg0 Ag0 _ cg0 _ _ _ hOg0 (by omega) (by omega) (by omega)).mono ?_
  rintro e w23 ⟨rfl, hOg0, ht⟩
  replace hOw0 := hOw0.touch ht (fun k h1 h2 => by have := hFw0 k h1; have := hFg0 k h2; omega)
  replace hOx0 := hOx0.touch ht (fun k h1 h2 => by have := hFx0 k h1; have := hFg0 k h2; omega)
  replace hOx1 := hOx1.touch ht (fun k h1 h2 => by have := hFx1 k h1; have := hFg0 k h2; omega)
  replace hx2_0 := touch_cell ht (fun h => by have := hFg0 _ h; simp at this; omega) hx2_0
  replace hx2_1 := touch_cell ht (fun h => by have := hFg0 _ h; simp at this; omega) hx2_1
  replace hx2_2 := touch_cell ht (fun h => by have := hFg0 _ h; simp at this; omega) hx2_2
  replace hx3_0 := touch_cell ht (fun h => by have := hFg0 _ h; simp at this; omega) hx3_0
  replace hx3_1 := touch_cell ht (fun h => by have := hFg0 _ h; simp at this; omega) hx3_1
  replace hx3_2 := touch_cell ht (fun h => by have := hFg0 _ h; simp at this; omega) hx3_2
  replace hB := Below.touch hB ht (fun k hk => by have := hFg0 k hk; omega) (by omega)
  have z23 := ht.size
  clear ht
  go_wp2_with fail
  refine (l_heldStringS Fg0 Ag0 _ cg0 _ _ hOg0 (by omega) (by omega) (by omega)).mono ?_
  rintro e w24 ⟨rfl, hb⟩
  replace hB := hB.trans (hb.mono hB.size)
  have z24 : w23.heap.size ≤ w24.heap.size := hb.size
  replace hOw0 := hOw0.below hb
  replace hOx0 := hOx0.below hb
  replace hOx1 := hOx1.below hb
  replace hOg0 := hOg0.below hb
  replace hx2_0 := cell_later hb hx2_0
  replace hx2_1 := cell_later hb hx2_1
  replace hx2_2 := cell_later hb hx2_2
  replace hx3_0 := cell_later hb hx3_0
  replace hx3_1 := cell_later hb hx3_1
  replace hx3_2 := cell_later hb hx3_2
  clear hb
  go_wp2_with fail
  replace hB := hB.drew
  replace hOw0 := hOw0.below ((Below.refl _ _).drew)
  replace hOx0 := hOx0.below ((Below.refl _ _).drew)
  replace hOx1 := hOx1.below ((Below.refl _ _).drew)
  replace hOg0 := hOg0.below ((Below.refl _ _).drew)
  go_region_held3 (fun w' => w'.cell? ⟨w.heap.size, 0, none⟩ = some (.string a2.fRole) ∧ w'.cell? ⟨w.heap.size, 1, none⟩ = some (.string a2.fObject) ∧ w'.cell? ⟨w.heap.size, 2, none⟩ = some (.int .i64 a2.fAction) ∧ w'.cell? ⟨w.heap.size + 1, 0, none⟩ = some (.string a3.fRole) ∧ w'.cell? ⟨w.heap.size + 1, 1, none⟩ = some (.string a3.fObject) ∧ w'.cell? ⟨w.heap.size + 1, 2, none⟩ = some (.int .i64 a3.fAction)) (go_keep) (first | (clear mk4; go_at_call 39; refine (I_MixedDuties At5 n0 ct5 l0 At6 n1 ct6 l1 a2 a3 _ hOt5.rd hb0 HG0.out hsum0 hOt6.rd hb1 HG1.out hsum1 wf2 hz2 wf3 hz3).mono ?_; rintro e w29 ⟨Ah0, nh0, ch0, hlh0, hnh0, hoh0, rfl, hb⟩; obtain ⟨Fh0, hFh0, hOh0⟩ := OL.of_own hoh0 hlh0; obtain rfl : nw0 = nh0 := hlw0.symm.trans hlh0; clear hoh0 hlh0; replace hB := hB.trans (hb.mono hB.size); have z29 : w28.heap.size ≤ w29.heap.size := hb.size; replace hOw0 := hOw0.below hb; replace hOx0 := hOx0.below hb; replace hOx1 := hOx1.below hb; replace hOg0 := hOg0.below hb; replace hx2_0 := cell_later hb hx2_0; replace hx2_1 := cell_later hb hx2_1; replace hx2_2 := cell_later hb hx2_2; replace hx3_0 := cell_later hb hx3_0; replace hx3_1 := cell_later hb hx3_1; replace hx3_2 := cell_later hb hx3_2; clear hb) | (clear mk3; go_at_call 34; refine (l_toGrant a3 _).mono ?_; rintro e w28 ⟨rfl, hb⟩; replace hB := hB.trans (hb.mono hB.size); have z28 : w27.heap.size ≤ w28.heap.size := hb.size; replace hOw0 := hOw0.below hb; replace hOx0 := hOx0.below hb; replace hOx1 := hOx1.below hb; replace hOg0 := hOg0.below hb; replace hOt5 := hOt5.below hb; replace hOt6 := hOt6.below hb; replace hx2_0 := cell_later hb hx2_0; replace hx2_1 := cell_later hb hx2_1; replace hx2_2 := cell_later hb hx2_2; replace hx3_0 := cell_later hb hx3_0; replace hx3_1 := cell_later hb hx3_1; replace hx3_2 := cell_later hb hx3_2; clear hb; have mk4 : True := trivial) | (clear mk2; go_at_call 34; refine (l_toGrant a2 _).mono ?_; rintro e w27 ⟨rfl, hb⟩; replace hB := hB.trans (hb.mono hB.size); have z27 : w26.heap.size ≤ w27.heap.size := hb.size; replace hOw0 := hOw0.below hb; replace hOx0 := hOx0.below hb; replace hOx1 := hOx1.below hb; replace hOg0 := hOg0.below hb; replace hOt5 := hOt5.below hb; replace hOt6 := hOt6.below hb; replace hx2_0 := cell_later hb hx2_0; replace hx2_1 := cell_later hb hx2_1; replace hx2_2 := cell_later hb hx2_2; replace hx3_0 := cell_later hb hx3_0; replace hx3_1 := cell_later hb hx3_1; replace hx3_2 := cell_later hb hx3_2; clear hb; have mk3 : True := trivial) | (clear mk1; go_at_call 27; refine (l_toGrantS A1 n1 c1 l1 _ (hr1.below hB) hb1).mono ?_; rintro e w26 ⟨At6, ct6, rfl, hl, ho, hb⟩; obtain ⟨Ft6, hFt6, hOt6⟩ := OL.of_own ho hl; clear ho hl; replace hB := hB.trans (hb.mono hB.size); have z26 : w25.heap.size ≤ w26.heap.size := hb.size; replace hOw0 := hOw0.below hb; replace hOx0 := hOx0.below hb; replace hOx1 := hOx1.below hb; replace hOg0 := hOg0.below hb; replace hOt5 := hOt5.below hb; replace hx2_0 := cell_later hb hx2_0; replace hx2_1 := cell_later hb hx2_1; replace hx2_2 := cell_later hb hx2_2; replace hx3_0 := cell_later hb hx3_0; replace hx3_1 := cell_later hb hx3_1; replace hx3_2 := cell_later hb hx3_2; clear hb; have mk2 : True := trivial) | (go_at_call 16; refine (l_toRoleS A0 n0 c0 l0 _ (hr0.below hB) hb0 hsum0).mono ?_; rintro e w25 ⟨At5, ct5, Ft5, rfl, hFt5, hOt5, hb⟩; replace hB := hB.trans (hb.mono hB.size); have z25 : w24.heap.size ≤ w25.heap.size := hb.size; replace hOw0 := hOw0.below hb; replace hOx0 := hOx0.below hb; replace hOx1 := hOx1.below hb; replace hOg0 := hOg0.below hb; replace hx2_0 := cell_later hb hx2_0; replace hx2_1 := cell_later hb hx2_1; replace hx2_2 := cell_later hb hx2_2; replace hx3_0 := cell_later hb hx3_0; replace hx3_1 := cell_later hb hx3_1; replace hx3_2 := cell_later hb hx3_2; clear hb; have mk1 : True := trivial))
  go_wp2_with fail
  refine (l_eqStringS Ah0 Aw0 _ ch0 cw0 _ _ hOh0.rd hOw0.rd hOh0.max).mono ?_
  rintro e w30 ⟨rfl, hb⟩
  replace hB := hB.trans (hb.mono hB.size)
  have z30 : w29.heap.size ≤ w30.heap.size := hb.size
  replace hOw0 := hOw0.below hb
  replace hOx0 := hOx0.below hb
  replace hOx1 := hOx1.below hb
  replace hOg0 := hOg0.below hb
  replace hOh0 := hOh0.below hb
  replace hx2_0 := cell_later hb hx2_0
  replace hx2_1 := cell_later hb hx2_1
  replace hx2_2 := cell_later hb hx2_2
  replace hx3_0 := cell_later hb hx3_0
  replace hx3_1 := cell_later hb hx3_1
  replace hx3_2 := cell_later hb hx3_2
  clear hb
  go_wp2_with fail
  refine (l_heldStringS Fg0 Ag0 _ cg0 _ _ hOg0 (by omega) (by omega) (by omega)).mono ?_
  rintro e w31 ⟨rfl, hb⟩
  replace hB := hB.trans (hb.mono hB.size)
  have z31 : w30.heap.size ≤ w31.heap.size := hb.size
  replace hOw0 := hOw0.below hb
  replace hOx0 := hOx0.below hb
  replace hOx1 := hOx1.below hb
  replace hOg0 := hOg0.below hb
  replace hOh0 := hOh0.below hb
  replace hx2_0 := cell_later hb hx2_0
  replace hx2_1 := cell_later hb hx2_1
  replace hx2_2 := cell_later hb hx2_2
  replace hx3_0 := cell_later hb hx3_0
  replace hx3_1 := cell_later hb hx3_1
  replace hx3_2 := cell_later hb hx3_2
  clear hb
  go_wp2
  go_ret
  exact ⟨rfl, hB⟩

end Go.Proofs.Ytepegiklnhoobaa
