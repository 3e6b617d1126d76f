/- The walk of the law on ReadCoat, printed by a program of mine off the law's text. -/
import Derived.Test.YtiaibjdppmgjlaaDoorRows
import Derived.Test.YtiaibjdppmgjlaaDoorRCoat
import Derived.Test.YtiaibjdppmgjlaaDoorCCoat
import Derived.Test.YtiaibjdppmgjlaaDoorMarks
import Derived.Test.YtiaibjdppmgjlaaDoorConvS
namespace Go.Proofs.YtiaibjdppmgjlaaDoor
set_option linter.unusedVariables false
set_option linter.unusedSimpArgs false
set_option linter.unusedSectionVars false
open Go.RowKit

set_option maxRecDepth 100000 in
set_option maxHeartbeats 4000000 in
theorem w_ReadCoat (a0 : ByteArray) (w : World) (wf0 : a0.size ≤ maxLen) (hL : LibW w) :
    Calls Tryd.prog 4 #[.string a0] w (RetB true w) := by
  have hB := Below.refl w.heap.size w
  by_cases hs0 : (1048576 : Int) < a0.size
  · go_enter Tryd.func4, Tryd.ntmps4
    go_wp2
    go_ret
    exact ⟨rfl, Below.refl _ _⟩
  have hs0' : a0.size ≤ 1048576 := by omega
  go_enter Tryd.func4, Tryd.ntmps4
  go_wp2_with fail
  refine (S_ReadCoat a0 _ hs0').mono ?_
  rintro e w1 ⟨xw0, Hxw0, Aw0, nw0, cw0, hlw0, hnw0, how0, rfl, hb⟩
  obtain ⟨Fw0, hFw0, hOw0⟩ := OL.of_own how0 hlw0
  replace hB := hB.trans (hb.mono hB.size)
  have z1 := hb.size
  clear hb
  have hb : Below w1.heap.size w1 (w1.alloc (.cells #[.string xw0.fId, .int .i64 xw0.fDays, .int .i64 xw0.fCover, .slice Aw0 nw0 cw0] 31)) := (Below.refl _ _).alloc (Nat.le_refl _) _
  have hxR := range_new w1 #[.string xw0.fId, .int .i64 xw0.fDays, .int .i64 xw0.fCover, .slice Aw0 nw0 cw0] 31
  obtain ⟨w2, hWw0⟩ : ∃ W, (w1.alloc (.cells #[.string xw0.fId, .int .i64 xw0.fDays, .int .i64 xw0.fCover, .slice Aw0 nw0 cw0] 31)) = W := ⟨_, rfl⟩
  rw [hWw0] at hb hxR
  have zsw0 : w1.heap.size < w2.heap.size := by rw [← hWw0]; simp
  have hxw0_0 := hxR 0 _ rfl
  have hxw0_1 := hxR 1 _ rfl
  have hxw0_2 := hxR 2 _ rfl
  have hxw0_3 := hxR 3 _ rfl
  simp only [Nat.zero_add] at hxw0_0 hxw0_1 hxw0_2 hxw0_3
  clear hxR
  replace hB := hB.trans (hb.mono hB.size)
  have z2 : w1.heap.size ≤ w2.heap.size := hb.size
  replace hOw0 := hOw0.below hb
  clear hb
  go_wp2_with fail
  try rw [hWw0]
  clear hWw0
  refine (I_ReadCoat a0 _ hs0' (hL.below hB)).mono ?_
  rintro e w3 ⟨xg0, Hxg0, Ag0, ng0, cg0, hlg0, hng0, hog0, rfl, hb⟩
  obtain rfl : xw0 = xg0 := Hxw0.out.trans Hxg0.out.symm
  obtain ⟨Fg0, hFg0, hOg0⟩ := OL.of_own hog0 hlg0
  obtain rfl : nw0 = ng0 := hlw0.symm.trans hlg0
  clear hog0 hlg0
  replace hB := hB.trans (hb.mono hB.size)
  have z3 : w2.heap.size ≤ w3.heap.size := hb.size
  replace hOw0 := hOw0.below hb
  replace hxw0_0 := cell_later hb hxw0_0
  replace hxw0_1 := cell_later hb hxw0_1
  replace hxw0_2 := cell_later hb hxw0_2
  replace hxw0_3 := cell_later hb hxw0_3
  clear hb
  have hb : Below w3.heap.size w3 (w3.alloc (.cells #[.string xw0.fId, .int .i64 xw0.fDays, .int .i64 xw0.fCover, .slice Ag0 nw0 cg0] 31)) := (Below.refl _ _).alloc (Nat.le_refl _) _
  have hxR := range_new w3 #[.string xw0.fId, .int .i64 xw0.fDays, .int .i64 xw0.fCover, .slice Ag0 nw0 cg0] 31
  obtain ⟨w4, hWg0⟩ : ∃ W, (w3.alloc (.cells #[.string xw0.fId, .int .i64 xw0.fDays, .int .i64 xw0.fCover, .slice Ag0 nw0 cg0] 31)) = W := ⟨_, rfl⟩
  rw [hWg0] at hb hxR
  have zsg0 : w3.heap.size < w4.heap.size := by rw [← hWg0]; simp
  have hxg0_0 := hxR 0 _ rfl
  have hxg0_1 := hxR 1 _ rfl
  have hxg0_2 := hxR 2 _ rfl
  have hxg0_3 := hxR 3 _ rfl
  simp only [Nat.zero_add] at hxg0_0 hxg0_1 hxg0_2 hxg0_3
  clear hxR
  replace hB := hB.trans (hb.mono hB.size)
  have z4 : w3.heap.size ≤ w4.heap.size := hb.size
  replace hOw0 := hOw0.below hb
  replace hOg0 := hOg0.below hb
  replace hxw0_0 := cell_later hb hxw0_0
  replace hxw0_1 := cell_later hb hxw0_1
  replace hxw0_2 := cell_later hb hxw0_2
  replace hxw0_3 := cell_later hb hxw0_3
  clear hb
  go_wp2_with fail
  try rw [hWg0]
  clear hWg0
  refine (l_eqCoat xw0 Ag0 Aw0 _ cg0 cw0 _ hOg0.rd hOw0.rd hOg0.max).mono ?_
  rintro e w5 ⟨rfl, hb⟩
  replace hB := hB.trans (hb.mono hB.size)
  have z5 : w4.heap.size ≤ w5.heap.size := hb.size
  replace hOw0 := hOw0.below hb
  replace hOg0 := hOg0.below hb
  replace hxw0_0 := cell_later hb hxw0_0
  replace hxw0_1 := cell_later hb hxw0_1
  replace hxw0_2 := cell_later hb hxw0_2
  replace hxw0_3 := cell_later hb hxw0_3
  replace hxg0_0 := cell_later hb hxg0_0
  replace hxg0_1 := cell_later hb hxg0_1
  replace hxg0_2 := cell_later hb hxg0_2
  replace hxg0_3 := cell_later hb hxg0_3
  clear hb
  go_wp2_with fail
  refine (l_markCoat xw0 Fg0 Ag0 _ cg0 _ _ _ hOg0 (by omega) (by omega) (by omega)).mono ?_
  rintro e w6 ⟨rfl, hOg0, ht⟩
  replace hOw0 := hOw0.touch ht (fun k h1 h2 => by have := hFw0 k h1; have := hFg0 k h2; omega)
  replace hxw0_0 := touch_cell ht (fun h => by have := hFg0 _ h; simp at this <;> omega) hxw0_0
  replace hxw0_1 := touch_cell ht (fun h => by have := hFg0 _ h; simp at this <;> omega) hxw0_1
  replace hxw0_2 := touch_cell ht (fun h => by have := hFg0 _ h; simp at this <;> omega) hxw0_2
  replace hxw0_3 := touch_cell ht (fun h => by have := hFg0 _ h; simp at this <;> omega) hxw0_3
  replace hxg0_0 := touch_cell ht (fun h => by have := hFg0 _ h; simp at this <;> omega) hxg0_0
  replace hxg0_1 := touch_cell ht (fun h => by have := hFg0 _ h; simp at this <;> omega) hxg0_1
  replace hxg0_2 := touch_cell ht (fun h => by have := hFg0 _ h; simp at this <;> omega) hxg0_2
  replace hxg0_3 := touch_cell ht (fun h => by have := hFg0 _ h; simp at this <;> omega) hxg0_3
  replace hB := Below.touch hB ht (fun k hk => by have := hFg0 k hk; omega) (by omega)
  have z6 := ht.size
  clear ht
  go_wp2_with fail
  refine (l_heldCoat xw0 Fg0 Ag0 _ cg0 _ _ hOg0 (by omega) (by omega) (by omega)).mono ?_
  rintro e w7 ⟨rfl, hb⟩
  replace hB := hB.trans (hb.mono hB.size)
  have z7 : w6.heap.size ≤ w7.heap.size := hb.size
  replace hOw0 := hOw0.below hb
  replace hOg0 := hOg0.below hb
  replace hxw0_0 := cell_later hb hxw0_0
  replace hxw0_1 := cell_later hb hxw0_1
  replace hxw0_2 := cell_later hb hxw0_2
  replace hxw0_3 := cell_later hb hxw0_3
  replace hxg0_0 := cell_later hb hxg0_0
  replace hxg0_1 := cell_later hb hxg0_1
  replace hxg0_2 := cell_later hb hxg0_2
  replace hxg0_3 := cell_later hb hxg0_3
  clear hb
  go_wp2_with fail
  refine (I_ReadCoat a0 _ hs0' (hL.below hB)).mono ?_
  rintro e w8 ⟨xh0, Hxh0, Ah0, nh0, ch0, hlh0, hnh0, hoh0, rfl, hb⟩
  obtain rfl : xw0 = xh0 := Hxw0.out.trans Hxh0.out.symm
  obtain ⟨Fh0, hFh0, hOh0⟩ := OL.of_own hoh0 hlh0
  obtain rfl : nw0 = nh0 := hlw0.symm.trans hlh0
  clear hoh0 hlh0
  replace hB := hB.trans (hb.mono hB.size)
  have z8 : w7.heap.size ≤ w8.heap.size := hb.size
  replace hOw0 := hOw0.below hb
  replace hOg0 := hOg0.below hb
  replace hxw0_0 := cell_later hb hxw0_0
  replace hxw0_1 := cell_later hb hxw0_1
  replace hxw0_2 := cell_later hb hxw0_2
  replace hxw0_3 := cell_later hb hxw0_3
  replace hxg0_0 := cell_later hb hxg0_0
  replace hxg0_1 := cell_later hb hxg0_1
  replace hxg0_2 := cell_later hb hxg0_2
  replace hxg0_3 := cell_later hb hxg0_3
  clear hb
  have hb : Below w8.heap.size w8 (w8.alloc (.cells #[.string xw0.fId, .int .i64 xw0.fDays, .int .i64 xw0.fCover, .slice Ah0 nw0 ch0] 31)) := (Below.refl _ _).alloc (Nat.le_refl _) _
  have hxR := range_new w8 #[.string xw0.fId, .int .i64 xw0.fDays, .int .i64 xw0.fCover, .slice Ah0 nw0 ch0] 31
  obtain ⟨w9, hWh0⟩ : ∃ W, (w8.alloc (.cells #[.string xw0.fId, .int .i64 xw0.fDays, .int .i64 xw0.fCover, .slice Ah0 nw0 ch0] 31)) = W := ⟨_, rfl⟩
  rw [hWh0] at hb hxR
  have zsh0 : w8.heap.size < w9.heap.size := by rw [← hWh0]; simp
  have hxh0_0 := hxR 0 _ rfl
  have hxh0_1 := hxR 1 _ rfl
  have hxh0_2 := hxR 2 _ rfl
  have hxh0_3 := hxR 3 _ rfl
  simp only [Nat.zero_add] at hxh0_0 hxh0_1 hxh0_2 hxh0_3
  clear hxR
  replace hB := hB.trans (hb.mono hB.size)
  have z9 : w8.heap.size ≤ w9.heap.size := hb.size
  replace hOw0 := hOw0.below hb
  replace hOg0 := hOg0.below hb
  replace hOh0 := hOh0.below hb
  replace hxw0_0 := cell_later hb hxw0_0
  replace hxw0_1 := cell_later hb hxw0_1
  replace hxw0_2 := cell_later hb hxw0_2
  replace hxw0_3 := cell_later hb hxw0_3
  replace hxg0_0 := cell_later hb hxg0_0
  replace hxg0_1 := cell_later hb hxg0_1
  replace hxg0_2 := cell_later hb hxg0_2
  replace hxg0_3 := cell_later hb hxg0_3
  clear hb
  go_wp2_with fail
  try rw [hWh0]
  clear hWh0
  refine (l_eqCoat xw0 Ah0 Aw0 _ ch0 cw0 _ hOh0.rd hOw0.rd hOh0.max).mono ?_
  rintro e w10 ⟨rfl, hb⟩
  replace hB := hB.trans (hb.mono hB.size)
  have z10 : w9.heap.size ≤ w10.heap.size := hb.size
  replace hOw0 := hOw0.below hb
  replace hOg0 := hOg0.below hb
  replace hOh0 := hOh0.below hb
  replace hxw0_0 := cell_later hb hxw0_0
  replace hxw0_1 := cell_later hb hxw0_1
  replace hxw0_2 := cell_later hb hxw0_2
  replace hxw0_3 := cell_later hb hxw0_3
  replace hxg0_0 := cell_later hb hxg0_0
  replace hxg0_1 := cell_later hb hxg0_1
  replace hxg0_2 := cell_later hb hxg0_2
  replace hxg0_3 := cell_later hb hxg0_3
  replace hxh0_0 := cell_later hb hxh0_0
  replace hxh0_1 := cell_later hb hxh0_1
  replace hxh0_2 := cell_later hb hxh0_2
  replace hxh0_3 := cell_later hb hxh0_3
  clear hb
  go_wp2_with fail
  refine (l_heldCoat xw0 Fg0 Ag0 _ cg0 _ _ hOg0 (by omega) (by omega) (by omega)).mono ?_
  rintro e w11 ⟨rfl, hb⟩
  replace hB := hB.trans (hb.mono hB.size)
  have z11 : w10.heap.size ≤ w11.heap.size := hb.size
  replace hOw0 := hOw0.below hb
  replace hOg0 := hOg0.below hb
  replace hOh0 := hOh0.below hb
  replace hxw0_0 := cell_later hb hxw0_0
  replace hxw0_1 := cell_later hb hxw0_1
  replace hxw0_2 := cell_later hb hxw0_2
  replace hxw0_3 := cell_later hb hxw0_3
  replace hxg0_0 := cell_later hb hxg0_0
  replace hxg0_1 := cell_later hb hxg0_1
  replace hxg0_2 := cell_later hb hxg0_2
  replace hxg0_3 := cell_later hb hxg0_3
  replace hxh0_0 := cell_later hb hxh0_0
  replace hxh0_1 := cell_later hb hxh0_1
  replace hxh0_2 := cell_later hb hxh0_2
  replace hxh0_3 := cell_later hb hxh0_3
  clear hb
  go_wp2
  go_ret
  exact ⟨rfl, hB⟩

end Go.Proofs.YtiaibjdppmgjlaaDoor
