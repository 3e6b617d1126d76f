/- The walk of the law on PutBlock, printed by a program of mine off the law's text. -/
import Derived.Test.YtnbeomceiealdaaRows
import Derived.Test.YtnbeomceiealdaaPutI
import Derived.Test.YtnbeomceiealdaaCBlock
import Derived.Test.YtnbeomceiealdaaMarks
import Derived.Test.YtnbeomceiealdaaConvS
namespace Go.Proofs.Ytnbeomceiealdaa
set_option linter.unusedVariables false
set_option linter.unusedSimpArgs false
set_option linter.unusedSectionVars false
open Go.RowKit

set_option maxHeartbeats 4000000 in
theorem w_PutBlock (A0 : Option Addr) (n0 c0 : Nat) (l0 : List DBlock) (a1 : DBlock) (w : World) (hr0 : Rd blockE w A0 n0 l0) (hn0 : n0 ≤ maxLen) (hg0 : ∀ x ∈ l0, x.good) (wf1 : a1.good) :
    Calls Try.prog 8 #[.slice A0 n0 c0, DBlock.val a1] w (RetB true w) := by
  unfold DBlock.val
  have HG0 := Lib.hid hg0; clear hg0
  have hB := Below.refl w.heap.size w
  have R1 := range_new w #[.string a1.fKind, .string a1.fName, .string a1.fText] 23
  have hx1_0 : (w.alloc (.cells #[.string a1.fKind, .string a1.fName, .string a1.fText] 23)).cell? ⟨w.heap.size, 0, none⟩ = some (.string a1.fKind) := R1 0 _ rfl
  have hx1_1 : (w.alloc (.cells #[.string a1.fKind, .string a1.fName, .string a1.fText] 23)).cell? ⟨w.heap.size, 1, none⟩ = some (.string a1.fName) := R1 1 _ rfl
  have hx1_2 : (w.alloc (.cells #[.string a1.fKind, .string a1.fName, .string a1.fText] 23)).cell? ⟨w.heap.size, 2, none⟩ = some (.string a1.fText) := R1 2 _ rfl
  clear R1
  replace hB : Below w.heap.size w (w.alloc (.cells #[.string a1.fKind, .string a1.fName, .string a1.fText] 23)) := by (repeat (first | exact Below.refl _ _ | assumption | refine Below.drew ?_ | refine Below.alloc ?_ (by first | omega | (simp; done) | (simp; omega) | exact Below.size (by assumption)) _ | refine Below.setCell ?_ (by first | omega | (simp; done) | (simp; omega)) _))
  have z0 : w.heap.size + 1 ≤ (w.alloc (.cells #[.string a1.fKind, .string a1.fName, .string a1.fText] 23)).heap.size := by simp
  have HX1_0 := Lib.hid hx1_0; clear hx1_0
  have HX1_1 := Lib.hid hx1_1; clear hx1_1
  have HX1_2 := Lib.hid hx1_2; clear hx1_2
  go_enter Try.func8, Try.ntmps8
  go_wp2_with fail
  refine (l_szBlockS A0 n0 c0 l0 _ _ (hr0.below hB) hn0 HG0.out (by omega) (by omega)).mono ?_
  rintro e w1 ⟨r0, rfl, hb, hlo0, hq0⟩
  replace hB := hB.trans (hb.mono hB.size)
  have z1 := hb.size
  have hx1_0 := cell_later hb HX1_0.out; clear HX1_0
  have hx1_1 := cell_later hb HX1_1.out; clear HX1_1
  have hx1_2 := cell_later hb HX1_2.out; clear HX1_2
  clear hb
  by_cases hneg0 : r0 < 0
  · obtain rfl : r0 = -1 := by omega
    clear hq0
    go_wp2
    go_ret
    exact ⟨rfl, hB⟩
  have hp0 := hq0 (by omega)
  have hpp0 := sumBlock_nonneg l0
  have hb0 : n0 ≤ 1048576 := by omega
  have hsum0 : sumBlock l0 ≤ 1048576 := by omega
  have hr0' : r0 ≤ 1048576 := by omega
  clear hp0 hpp0 hq0 hlo0
  go_wp2_with fail
  refine (l_szBlock a1 _ _ wf1 (by omega) (by omega)).mono ?_
  rintro e w2 ⟨r1, rfl, hb, hlo1, hq1⟩
  replace hB := hB.trans (hb.mono hB.size)
  have z2 : w1.heap.size ≤ w2.heap.size := hb.size
  replace hx1_0 := cell_later hb hx1_0
  replace hx1_1 := cell_later hb hx1_1
  replace hx1_2 := cell_later hb hx1_2
  clear hb
  by_cases hneg1 : r1 < 0
  · obtain rfl : r1 = -1 := by omega
    clear hq1
    go_wp2
    go_ret
    exact ⟨rfl, hB⟩
  have hp1 := hq1 (by omega)
  have hpp1 := DBlock.sz_nonneg a1
  have hz1 : DBlock.sz a1 ≤ 1048576 := by omega
  have hr1' : r1 ≤ 1048576 := by omega
  clear hp1 hpp1 hq1 hlo1
  go_wp2_with fail
  replace hB := hB.drew
  go_region_held3 (fun w' => w'.cell? ⟨w.heap.size, 0, none⟩ = some (.string a1.fKind) ∧ w'.cell? ⟨w.heap.size, 1, none⟩ = some (.string a1.fName) ∧ w'.cell? ⟨w.heap.size, 2, none⟩ = some (.string a1.fText)) (go_keep) (first | (go_at_call 16; refine (l_toBlockS A0 n0 c0 l0 _ (hr0.below hB) hb0).mono ?_; rintro e w3 ⟨At1, ct1, rfl, hl, ho, hb⟩; obtain ⟨Ft1, hFt1, hOt1⟩ := OL.of_own ho hl; clear ho hl; replace hB := hB.trans (hb.mono hB.size); have z3 : w2.heap.size ≤ w3.heap.size := hb.size; replace hx1_0 := cell_later hb hx1_0; replace hx1_1 := cell_later hb hx1_1; replace hx1_2 := cell_later hb hx1_2; clear hb) | (go_at_call 12; refine (l_toBlock a1 _).mono ?_; rintro e w4 ⟨rfl, hb⟩; replace hB := hB.trans (hb.mono hB.size); have z4 : w3.heap.size ≤ w4.heap.size := hb.size; replace hOt1 := hOt1.below hb; replace hx1_0 := cell_later hb hx1_0; replace hx1_1 := cell_later hb hx1_1; replace hx1_2 := cell_later hb hx1_2; clear hb) | (go_at_call 30; refine (S_PutBlock At1 n0 ct1 l0 a1 _ hOt1.rd hb0 HG0.out hsum0 wf1 hz1).mono ?_; rintro e w5 ⟨Aw0, nw0, cw0, hlw0, hnw0, how0, rfl, hb⟩; obtain ⟨Fw0, hFw0, hOw0⟩ := OL.of_own how0 hlw0; replace hB := hB.trans (hb.mono hB.size); have z5 : w4.heap.size ≤ w5.heap.size := hb.size; replace hx1_0 := cell_later hb hx1_0; replace hx1_1 := cell_later hb hx1_1; replace hx1_2 := cell_later hb hx1_2; clear hb))
  go_wp2_with fail
  refine (l_toBlockS A0 n0 c0 l0 _ (hr0.below hB) hb0).mono ?_
  rintro e w6 ⟨Ax0, cx0, rfl, hl, ho, hb⟩
  obtain ⟨Fx0, hFx0, hOx0⟩ := OL.of_own ho hl
  clear ho hl
  replace hB := hB.trans (hb.mono hB.size)
  have z6 : w5.heap.size ≤ w6.heap.size := hb.size
  replace hOw0 := hOw0.below hb
  replace hx1_0 := cell_later hb hx1_0
  replace hx1_1 := cell_later hb hx1_1
  replace hx1_2 := cell_later hb hx1_2
  clear hb
  go_wp2_with fail
  refine (l_toBlock a1 _).mono ?_
  rintro e w7 ⟨rfl, hb⟩
  replace hB := hB.trans (hb.mono hB.size)
  have z7 : w6.heap.size ≤ w7.heap.size := hb.size
  replace hOw0 := hOw0.below hb
  replace hOx0 := hOx0.below hb
  replace hx1_0 := cell_later hb hx1_0
  replace hx1_1 := cell_later hb hx1_1
  replace hx1_2 := cell_later hb hx1_2
  clear hb
  go_wp2_with fail
  refine (I_PutBlock Ax0 n0 cx0 l0 a1 _ hOx0.rd hb0 HG0.out hsum0 wf1 hz1).mono ?_
  rintro e w8 ⟨Ag0, ng0, cg0, hlg0, hng0, hog0, rfl, hb⟩
  obtain ⟨Fg0, hFg0, hOg0⟩ := OL.of_own hog0 hlg0
  obtain rfl : nw0 = ng0 := hlw0.symm.trans hlg0
  clear hog0 hlg0
  replace hB := hB.trans (hb.mono hB.size)
  have z8 : w7.heap.size ≤ w8.heap.size := hb.size
  replace hOw0 := hOw0.below hb
  replace hOx0 := hOx0.below hb
  replace hx1_0 := cell_later hb hx1_0
  replace hx1_1 := cell_later hb hx1_1
  replace hx1_2 := cell_later hb hx1_2
  clear hb
  go_wp2_with fail
  refine (l_eqBlockS Ag0 Aw0 _ cg0 cw0 _ _ hOg0.rd hOw0.rd hOg0.max).mono ?_
  rintro e w9 ⟨rfl, hb⟩
  replace hB := hB.trans (hb.mono hB.size)
  have z9 : w8.heap.size ≤ w9.heap.size := hb.size
  replace hOw0 := hOw0.below hb
  replace hOx0 := hOx0.below hb
  replace hOg0 := hOg0.below hb
  replace hx1_0 := cell_later hb hx1_0
  replace hx1_1 := cell_later hb hx1_1
  replace hx1_2 := cell_later hb hx1_2
  clear hb
  go_wp2_with fail
  refine (l_toBlockS A0 n0 c0 l0 _ (hr0.below hB) hb0).mono ?_
  rintro e w10 ⟨At2, ct2, rfl, hl, ho, hb⟩
  obtain ⟨Ft2, hFt2, hOt2⟩ := OL.of_own ho hl
  clear ho hl
  replace hB := hB.trans (hb.mono hB.size)
  have z10 : w9.heap.size ≤ w10.heap.size := hb.size
  replace hOw0 := hOw0.below hb
  replace hOx0 := hOx0.below hb
  replace hOg0 := hOg0.below hb
  replace hx1_0 := cell_later hb hx1_0
  replace hx1_1 := cell_later hb hx1_1
  replace hx1_2 := cell_later hb hx1_2
  clear hb
  go_wp2_with fail
  refine (l_eqBlockS Ax0 At2 _ cx0 ct2 _ _ hOx0.rd hOt2.rd hOx0.max).mono ?_
  rintro e w11 ⟨rfl, hb⟩
  replace hB := hB.trans (hb.mono hB.size)
  have z11 : w10.heap.size ≤ w11.heap.size := hb.size
  replace hOw0 := hOw0.below hb
  replace hOx0 := hOx0.below hb
  replace hOg0 := hOg0.below hb
  replace hOt2 := hOt2.below hb
  replace hx1_0 := cell_later hb hx1_0
  replace hx1_1 := cell_later hb hx1_1
  replace hx1_2 := cell_later hb hx1_2
  clear hb
  go_wp2_with fail
  refine (l_markBlockS Fx0 Ax0 _ cx0 _ _ _ hOx0 (by omega) (by omega) (by omega)).mono ?_
  rintro e w12 ⟨rfl, hOx0, ht⟩
  replace hOw0 := hOw0.touch ht (fun k h1 h2 => by have := hFw0 k h1; have := hFx0 k h2; omega)
  replace hOg0 := hOg0.touch ht (fun k h1 h2 => by have := hFg0 k h1; have := hFx0 k h2; omega)
  replace hx1_0 := touch_cell ht (fun h => by have := hFx0 _ h; simp at this; omega) hx1_0
  replace hx1_1 := touch_cell ht (fun h => by have := hFx0 _ h; simp at this; omega) hx1_1
  replace hx1_2 := touch_cell ht (fun h => by have := hFx0 _ h; simp at this; omega) hx1_2
  replace hB := Below.touch hB ht (fun k hk => by have := hFx0 k hk; omega) (by omega)
  have z12 := ht.size
  clear ht
  go_wp2_with fail
  refine (l_eqBlockS Ag0 Aw0 _ cg0 cw0 _ _ hOg0.rd hOw0.rd hOg0.max).mono ?_
  rintro e w13 ⟨rfl, hb⟩
  replace hB := hB.trans (hb.mono hB.size)
  have z13 : w12.heap.size ≤ w13.heap.size := hb.size
  replace hOw0 := hOw0.below hb
  replace hOx0 := hOx0.below hb
  replace hOg0 := hOg0.below hb
  replace hx1_0 := cell_later hb hx1_0
  replace hx1_1 := cell_later hb hx1_1
  replace hx1_2 := cell_later hb hx1_2
  clear hb
  go_wp2_with fail
  refine (l_markBlockS Fg0 Ag0 _ cg0 _ _ _ hOg0 (by omega) (by omega) (by omega)).mono ?_
  rintro e w14 ⟨rfl, hOg0, ht⟩
  replace hOw0 := hOw0.touch ht (fun k h1 h2 => by have := hFw0 k h1; have := hFg0 k h2; omega)
  replace hOx0 := hOx0.touch ht (fun k h1 h2 => by have := hFx0 k h1; have := hFg0 k h2; omega)
  replace hx1_0 := touch_cell ht (fun h => by have := hFg0 _ h; simp at this; omega) hx1_0
  replace hx1_1 := touch_cell ht (fun h => by have := hFg0 _ h; simp at this; omega) hx1_1
  replace hx1_2 := touch_cell ht (fun h => by have := hFg0 _ h; simp at this; omega) hx1_2
  replace hB := Below.touch hB ht (fun k hk => by have := hFg0 k hk; omega) (by omega)
  have z14 := ht.size
  clear ht
  go_wp2_with fail
  refine (l_heldBlockS Fg0 Ag0 _ cg0 _ _ hOg0 (by omega) (by omega) (by omega)).mono ?_
  rintro e w15 ⟨rfl, hb⟩
  replace hB := hB.trans (hb.mono hB.size)
  have z15 : w14.heap.size ≤ w15.heap.size := hb.size
  replace hOw0 := hOw0.below hb
  replace hOx0 := hOx0.below hb
  replace hOg0 := hOg0.below hb
  replace hx1_0 := cell_later hb hx1_0
  replace hx1_1 := cell_later hb hx1_1
  replace hx1_2 := cell_later hb hx1_2
  clear hb
  go_wp2_with fail
  replace hB := hB.drew
  replace hOw0 := hOw0.below ((Below.refl _ _).drew)
  replace hOx0 := hOx0.below ((Below.refl _ _).drew)
  replace hOg0 := hOg0.below ((Below.refl _ _).drew)
  go_region_held3 (fun w' => w'.cell? ⟨w.heap.size, 0, none⟩ = some (.string a1.fKind) ∧ w'.cell? ⟨w.heap.size, 1, none⟩ = some (.string a1.fName) ∧ w'.cell? ⟨w.heap.size, 2, none⟩ = some (.string a1.fText)) (go_keep) (first | (go_at_call 16; refine (l_toBlockS A0 n0 c0 l0 _ (hr0.below hB) hb0).mono ?_; rintro e w16 ⟨At3, ct3, rfl, hl, ho, hb⟩; obtain ⟨Ft3, hFt3, hOt3⟩ := OL.of_own ho hl; clear ho hl; replace hB := hB.trans (hb.mono hB.size); have z16 : w15.heap.size ≤ w16.heap.size := hb.size; replace hOw0 := hOw0.below hb; replace hOx0 := hOx0.below hb; replace hOg0 := hOg0.below hb; replace hx1_0 := cell_later hb hx1_0; replace hx1_1 := cell_later hb hx1_1; replace hx1_2 := cell_later hb hx1_2; clear hb) | (go_at_call 12; refine (l_toBlock a1 _).mono ?_; rintro e w17 ⟨rfl, hb⟩; replace hB := hB.trans (hb.mono hB.size); have z17 : w16.heap.size ≤ w17.heap.size := hb.size; replace hOw0 := hOw0.below hb; replace hOx0 := hOx0.below hb; replace hOg0 := hOg0.below hb; replace hOt3 := hOt3.below hb; replace hx1_0 := cell_later hb hx1_0; replace hx1_1 := cell_later hb hx1_1; replace hx1_2 := cell_later hb hx1_2; clear hb) | (go_at_call 31; refine (I_PutBlock At3 n0 ct3 l0 a1 _ hOt3.rd hb0 HG0.out hsum0 wf1 hz1).mono ?_; rintro e w18 ⟨Ah0, nh0, ch0, hlh0, hnh0, hoh0, rfl, hb⟩; obtain ⟨Fh0, hFh0, hOh0⟩ := OL.of_own hoh0 hlh0; obtain rfl : nw0 = nh0 := hlw0.symm.trans hlh0; clear hoh0 hlh0; replace hB := hB.trans (hb.mono hB.size); have z18 : w17.heap.size ≤ w18.heap.size := hb.size; replace hOw0 := hOw0.below hb; replace hOx0 := hOx0.below hb; replace hOg0 := hOg0.below hb; replace hx1_0 := cell_later hb hx1_0; replace hx1_1 := cell_later hb hx1_1; replace hx1_2 := cell_later hb hx1_2; clear hb))
  go_wp2_with fail
  refine (l_eqBlockS Ah0 Aw0 _ ch0 cw0 _ _ hOh0.rd hOw0.rd hOh0.max).mono ?_
  rintro e w19 ⟨rfl, hb⟩
  replace hB := hB.trans (hb.mono hB.size)
  have z19 : w18.heap.size ≤ w19.heap.size := hb.size
  replace hOw0 := hOw0.below hb
  replace hOx0 := hOx0.below hb
  replace hOg0 := hOg0.below hb
  replace hOh0 := hOh0.below hb
  replace hx1_0 := cell_later hb hx1_0
  replace hx1_1 := cell_later hb hx1_1
  replace hx1_2 := cell_later hb hx1_2
  clear hb
  go_wp2_with fail
  refine (l_heldBlockS Fg0 Ag0 _ cg0 _ _ hOg0 (by omega) (by omega) (by omega)).mono ?_
  rintro e w20 ⟨rfl, hb⟩
  replace hB := hB.trans (hb.mono hB.size)
  have z20 : w19.heap.size ≤ w20.heap.size := hb.size
  replace hOw0 := hOw0.below hb
  replace hOx0 := hOx0.below hb
  replace hOg0 := hOg0.below hb
  replace hOh0 := hOh0.below hb
  replace hx1_0 := cell_later hb hx1_0
  replace hx1_1 := cell_later hb hx1_1
  replace hx1_2 := cell_later hb hx1_2
  clear hb
  go_wp2
  go_ret
  exact ⟨rfl, hB⟩

end Go.Proofs.Ytnbeomceiealdaa
