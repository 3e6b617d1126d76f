/- The walk of the law on CountLines, printed by a program of mine off the law's text. -/
import Derived.Test.YtbblkmnafdmcdaaRows
import Derived.Test.YtbblkmnafdmcdaaCount
import Derived.Test.YtbblkmnafdmcdaaMarks
import Derived.Test.YtbblkmnafdmcdaaConvS
namespace Go.Proofs.Ytbblkmnafdmcdaa
set_option linter.unusedVariables false
set_option linter.unusedSimpArgs false
set_option linter.unusedSectionVars false
open Go.RowKit

set_option maxHeartbeats 4000000 in
theorem w_CountLines (A0 : Option Addr) (n0 c0 : Nat) (l0 : List ByteArray) (w : World) (hr0 : Rd strE w A0 n0 l0) (hn0 : n0 ≤ maxLen) (hg0 : ∀ x ∈ l0, x.size ≤ maxLen) :
    Calls Try.prog 6 #[.slice A0 n0 c0] w (RetB true w) := by
  have HG0 := Lib.hid hg0; clear hg0
  have hB := Below.refl w.heap.size w
  go_enter Try.func6, Try.ntmps6
  go_wp2_with fail
  refine (l_szStringS A0 n0 c0 l0 _ _ (hr0.below hB) hn0 HG0.out (by omega) (by omega)).mono ?_
  rintro e w1 ⟨r0, rfl, hb, hlo0, hq0⟩
  replace hb : Below w.heap.size w w1 := hb ▸ Below.refl _ _
  replace hB := hB.trans (hb.mono hB.size)
  have z1 := hb.size
  clear hb
  by_cases hneg0 : r0 < 0
  · obtain rfl : r0 = -1 := by omega
    clear hq0
    go_wp2
    go_ret
    exact ⟨rfl, hB⟩
  have hp0 := hq0 (by omega)
  have hpp0 := sumS_nonneg l0
  have hb0 : n0 ≤ 1048576 := by omega
  have hsum0 : sumS l0 ≤ 1048576 := by omega
  have hr0' : r0 ≤ 1048576 := by omega
  clear hp0 hpp0 hq0 hlo0
  go_wp2_with fail
  refine (l_toStringS A0 n0 c0 l0 _ (hr0.below hB) hb0).mono ?_
  rintro e w2 ⟨At1, ct1, rfl, hl, ho, hb⟩
  obtain ⟨Ft1, hFt1, hOt1⟩ := OL.of_own ho hl
  clear ho hl
  replace hB := hB.trans (hb.mono hB.size)
  have z2 : w1.heap.size ≤ w2.heap.size := hb.size
  clear hb
  go_wp2_with fail
  refine (S_CountLines At1 n0 ct1 l0 _ hOt1.rd hb0 HG0.out hsum0).mono ?_
  rintro e w3 ⟨Aw0, nw0, cw0, hlw0, hnw0, how0, Aw1, nw1, cw1, hlw1, hnw1, how1, hapw0, rfl, hb⟩
  obtain ⟨Fw0, Fw1, hFw0, hFw1, hOw0, hOw1, hDw0⟩ := OL.of_two how0 hlw0 how1 hlw1 hapw0
  replace hB := hB.trans (hb.mono hB.size)
  have z3 : w2.heap.size ≤ w3.heap.size := hb.size
  clear hb
  go_wp2_with fail
  refine (l_toStringS A0 n0 c0 l0 _ (hr0.below hB) hb0).mono ?_
  rintro e w4 ⟨Ax0, cx0, rfl, hl, ho, hb⟩
  obtain ⟨Fx0, hFx0, hOx0⟩ := OL.of_own ho hl
  clear ho hl
  replace hB := hB.trans (hb.mono hB.size)
  have z4 : w3.heap.size ≤ w4.heap.size := hb.size
  replace hOw0 := hOw0.below hb
  replace hOw1 := hOw1.below hb
  clear hb
  go_wp2_with fail
  refine (I_CountLines Ax0 n0 cx0 l0 _ hOx0.rd hb0 HG0.out hsum0).mono ?_
  rintro e w5 ⟨Ag0, ng0, cg0, hlg0, hng0, hog0, Ag1, ng1, cg1, hlg1, hng1, hog1, hapg0, rfl, hb⟩
  obtain ⟨Fg0, Fg1, hFg0, hFg1, hOg0, hOg1, hDg0⟩ := OL.of_two hog0 hlg0 hog1 hlg1 hapg0
  obtain rfl : nw0 = ng0 := hlw0.symm.trans hlg0
  clear hog0 hlg0
  obtain rfl : nw1 = ng1 := hlw1.symm.trans hlg1
  clear hog1 hlg1
  replace hB := hB.trans (hb.mono hB.size)
  have z5 : w4.heap.size ≤ w5.heap.size := hb.size
  replace hOw0 := hOw0.below hb
  replace hOw1 := hOw1.below hb
  replace hOx0 := hOx0.below hb
  clear hb
  go_wp2_with fail
  refine (l_eqStringS Ag0 Aw0 _ cg0 cw0 _ _ hOg0.rd hOw0.rd hOg0.max).mono ?_
  rintro e w6 ⟨rfl, hb⟩
  replace hB := hB.trans (hb.mono hB.size)
  have z6 : w5.heap.size ≤ w6.heap.size := hb.size
  replace hOw0 := hOw0.below hb
  replace hOw1 := hOw1.below hb
  replace hOx0 := hOx0.below hb
  replace hOg0 := hOg0.below hb
  replace hOg1 := hOg1.below hb
  clear hb
  go_wp2_with fail
  refine (l_eqInt64S Ag1 Aw1 _ cg1 cw1 _ _ hOg1.rd hOw1.rd hOg1.max).mono ?_
  rintro e w7 ⟨rfl, hb⟩
  replace hB := hB.trans (hb.mono hB.size)
  have z7 : w6.heap.size ≤ w7.heap.size := hb.size
  replace hOw0 := hOw0.below hb
  replace hOw1 := hOw1.below hb
  replace hOx0 := hOx0.below hb
  replace hOg0 := hOg0.below hb
  replace hOg1 := hOg1.below hb
  clear hb
  go_wp2_with fail
  refine (l_toStringS A0 n0 c0 l0 _ (hr0.below hB) hb0).mono ?_
  rintro e w8 ⟨At2, ct2, rfl, hl, ho, hb⟩
  obtain ⟨Ft2, hFt2, hOt2⟩ := OL.of_own ho hl
  clear ho hl
  replace hB := hB.trans (hb.mono hB.size)
  have z8 : w7.heap.size ≤ w8.heap.size := hb.size
  replace hOw0 := hOw0.below hb
  replace hOw1 := hOw1.below hb
  replace hOx0 := hOx0.below hb
  replace hOg0 := hOg0.below hb
  replace hOg1 := hOg1.below hb
  clear hb
  go_wp2_with fail
  refine (l_eqStringS Ax0 At2 _ cx0 ct2 _ _ hOx0.rd hOt2.rd hOx0.max).mono ?_
  rintro e w9 ⟨rfl, hb⟩
  replace hB := hB.trans (hb.mono hB.size)
  have z9 : w8.heap.size ≤ w9.heap.size := hb.size
  replace hOw0 := hOw0.below hb
  replace hOw1 := hOw1.below hb
  replace hOx0 := hOx0.below hb
  replace hOg0 := hOg0.below hb
  replace hOg1 := hOg1.below hb
  replace hOt2 := hOt2.below hb
  clear hb
  go_wp2_with fail
  refine (l_markStringS Fx0 Ax0 _ cx0 _ _ _ hOx0 (by omega) (by omega) (by omega)).mono ?_
  rintro e w10 ⟨rfl, hOx0, ht⟩
  replace hOw0 := hOw0.touch ht (fun k h1 h2 => by have := hFw0 k h1; have := hFx0 k h2; omega)
  replace hOw1 := hOw1.touch ht (fun k h1 h2 => by have := hFw1 k h1; have := hFx0 k h2; omega)
  replace hOg0 := hOg0.touch ht (fun k h1 h2 => by have := hFg0 k h1; have := hFx0 k h2; omega)
  replace hOg1 := hOg1.touch ht (fun k h1 h2 => by have := hFg1 k h1; have := hFx0 k h2; omega)
  replace hB := Below.touch hB ht (fun k hk => by have := hFx0 k hk; omega) (by omega)
  have z10 := ht.size
  clear ht
  go_wp2_with fail
  refine (l_eqStringS Ag0 Aw0 _ cg0 cw0 _ _ hOg0.rd hOw0.rd hOg0.max).mono ?_
  rintro e w11 ⟨rfl, hb⟩
  replace hB := hB.trans (hb.mono hB.size)
  have z11 : w10.heap.size ≤ w11.heap.size := hb.size
  replace hOw0 := hOw0.below hb
  replace hOw1 := hOw1.below hb
  replace hOx0 := hOx0.below hb
  replace hOg0 := hOg0.below hb
  replace hOg1 := hOg1.below hb
  clear hb
  go_wp2_with fail
  refine (l_eqInt64S Ag1 Aw1 _ cg1 cw1 _ _ hOg1.rd hOw1.rd hOg1.max).mono ?_
  rintro e w12 ⟨rfl, hb⟩
  replace hB := hB.trans (hb.mono hB.size)
  have z12 : w11.heap.size ≤ w12.heap.size := hb.size
  replace hOw0 := hOw0.below hb
  replace hOw1 := hOw1.below hb
  replace hOx0 := hOx0.below hb
  replace hOg0 := hOg0.below hb
  replace hOg1 := hOg1.below hb
  clear hb
  go_wp2_with fail
  refine (l_markStringS Fg0 Ag0 _ cg0 _ _ _ hOg0 (by omega) (by omega) (by omega)).mono ?_
  rintro e w13 ⟨rfl, hOg0, ht⟩
  replace hOw0 := hOw0.touch ht (fun k h1 h2 => by have := hFw0 k h1; have := hFg0 k h2; omega)
  replace hOw1 := hOw1.touch ht (fun k h1 h2 => by have := hFw1 k h1; have := hFg0 k h2; omega)
  replace hOx0 := hOx0.touch ht (fun k h1 h2 => by have := hFx0 k h1; have := hFg0 k h2; omega)
  replace hOg1 := hOg1.touch ht (fun k h1 h2 => hDg0 k h2 h1)
  replace hB := Below.touch hB ht (fun k hk => by have := hFg0 k hk; omega) (by omega)
  have z13 := ht.size
  clear ht
  go_wp2_with fail
  refine (l_markInt64S Fg1 Ag1 _ cg1 _ _ _ hOg1 (by omega) (by omega) (by omega)).mono ?_
  rintro e w14 ⟨rfl, hOg1, ht⟩
  replace hOw0 := hOw0.touch ht (fun k h1 h2 => by have := hFw0 k h1; have := hFg1 k h2; omega)
  replace hOw1 := hOw1.touch ht (fun k h1 h2 => by have := hFw1 k h1; have := hFg1 k h2; omega)
  replace hOx0 := hOx0.touch ht (fun k h1 h2 => by have := hFx0 k h1; have := hFg1 k h2; omega)
  replace hOg0 := hOg0.touch ht (fun k h1 h2 => hDg0 k h1 h2)
  replace hB := Below.touch hB ht (fun k hk => by have := hFg1 k hk; omega) (by omega)
  have z14 := ht.size
  clear ht
  go_wp2_with fail
  refine (l_heldStringS Fg0 Ag0 _ cg0 _ _ hOg0 (by omega) (by omega) (by omega)).mono ?_
  rintro e w15 ⟨rfl, hb⟩
  replace hB := hB.trans (hb.mono hB.size)
  have z15 : w14.heap.size ≤ w15.heap.size := hb.size
  replace hOw0 := hOw0.below hb
  replace hOw1 := hOw1.below hb
  replace hOx0 := hOx0.below hb
  replace hOg0 := hOg0.below hb
  replace hOg1 := hOg1.below hb
  clear hb
  go_wp2_with fail
  refine (l_heldInt64S Fg1 Ag1 _ cg1 _ _ hOg1 (by omega) (by omega) (by omega)).mono ?_
  rintro e w16 ⟨rfl, hb⟩
  replace hB := hB.trans (hb.mono hB.size)
  have z16 : w15.heap.size ≤ w16.heap.size := hb.size
  replace hOw0 := hOw0.below hb
  replace hOw1 := hOw1.below hb
  replace hOx0 := hOx0.below hb
  replace hOg0 := hOg0.below hb
  replace hOg1 := hOg1.below hb
  clear hb
  go_wp2_with fail
  refine (l_toStringS A0 n0 c0 l0 _ (hr0.below hB) hb0).mono ?_
  rintro e w17 ⟨At3, ct3, rfl, hl, ho, hb⟩
  obtain ⟨Ft3, hFt3, hOt3⟩ := OL.of_own ho hl
  clear ho hl
  replace hB := hB.trans (hb.mono hB.size)
  have z17 : w16.heap.size ≤ w17.heap.size := hb.size
  replace hOw0 := hOw0.below hb
  replace hOw1 := hOw1.below hb
  replace hOx0 := hOx0.below hb
  replace hOg0 := hOg0.below hb
  replace hOg1 := hOg1.below hb
  clear hb
  go_wp2_with fail
  refine (I_CountLines At3 n0 ct3 l0 _ hOt3.rd hb0 HG0.out hsum0).mono ?_
  rintro e w18 ⟨Ah0, nh0, ch0, hlh0, hnh0, hoh0, Ah1, nh1, ch1, hlh1, hnh1, hoh1, haph0, rfl, hb⟩
  obtain ⟨Fh0, Fh1, hFh0, hFh1, hOh0, hOh1, hDh0⟩ := OL.of_two hoh0 hlh0 hoh1 hlh1 haph0
  obtain rfl : nw0 = nh0 := hlw0.symm.trans hlh0
  clear hoh0 hlh0
  obtain rfl : nw1 = nh1 := hlw1.symm.trans hlh1
  clear hoh1 hlh1
  replace hB := hB.trans (hb.mono hB.size)
  have z18 : w17.heap.size ≤ w18.heap.size := hb.size
  replace hOw0 := hOw0.below hb
  replace hOw1 := hOw1.below hb
  replace hOx0 := hOx0.below hb
  replace hOg0 := hOg0.below hb
  replace hOg1 := hOg1.below hb
  clear hb
  go_wp2_with fail
  refine (l_eqStringS Ah0 Aw0 _ ch0 cw0 _ _ hOh0.rd hOw0.rd hOh0.max).mono ?_
  rintro e w19 ⟨rfl, hb⟩
  replace hB := hB.trans (hb.mono hB.size)
  have z19 : w18.heap.size ≤ w19.heap.size := hb.size
  replace hOw0 := hOw0.below hb
  replace hOw1 := hOw1.below hb
  replace hOx0 := hOx0.below hb
  replace hOg0 := hOg0.below hb
  replace hOg1 := hOg1.below hb
  replace hOh0 := hOh0.below hb
  replace hOh1 := hOh1.below hb
  clear hb
  go_wp2_with fail
  refine (l_eqInt64S Ah1 Aw1 _ ch1 cw1 _ _ hOh1.rd hOw1.rd hOh1.max).mono ?_
  rintro e w20 ⟨rfl, hb⟩
  replace hB := hB.trans (hb.mono hB.size)
  have z20 : w19.heap.size ≤ w20.heap.size := hb.size
  replace hOw0 := hOw0.below hb
  replace hOw1 := hOw1.below hb
  replace hOx0 := hOx0.below hb
  replace hOg0 := hOg0.below hb
  replace hOg1 := hOg1.below hb
  replace hOh0 := hOh0.below hb
  replace hOh1 := hOh1.below hb
  clear hb
  go_wp2_with fail
  refine (l_heldStringS Fg0 Ag0 _ cg0 _ _ hOg0 (by omega) (by omega) (by omega)).mono ?_
  rintro e w21 ⟨rfl, hb⟩
  replace hB := hB.trans (hb.mono hB.size)
  have z21 : w20.heap.size ≤ w21.heap.size := hb.size
  replace hOw0 := hOw0.below hb
  replace hOw1 := hOw1.below hb
  replace hOx0 := hOx0.below hb
  replace hOg0 := hOg0.below hb
  replace hOg1 := hOg1.below hb
  replace hOh0 := hOh0.below hb
  replace hOh1 := hOh1.below hb
  clear hb
  go_wp2_with fail
  refine (l_heldInt64S Fg1 Ag1 _ cg1 _ _ hOg1 (by omega) (by omega) (by omega)).mono ?_
  rintro e w22 ⟨rfl, hb⟩
  replace hB := hB.trans (hb.mono hB.size)
  have z22 : w21.heap.size ≤ w22.heap.size := hb.size
  replace hOw0 := hOw0.below hb
  replace hOw1 := hOw1.below hb
  replace hOx0 := hOx0.below hb
  replace hOg0 := hOg0.below hb
  replace hOg1 := hOg1.below hb
  replace hOh0 := hOh0.below hb
  replace hOh1 := hOh1.below hb
  clear hb
  go_wp2
  go_ret
  exact ⟨rfl, hB⟩

end Go.Proofs.Ytbblkmnafdmcdaa
