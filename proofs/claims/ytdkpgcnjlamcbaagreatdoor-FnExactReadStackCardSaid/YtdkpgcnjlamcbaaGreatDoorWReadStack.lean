/- The walk of the law on ReadStack, printed by a program of mine off the law's text. -/
import Derived.Test.YtdkpgcnjlamcbaaGreatDoorRows
import Derived.Test.YtdkpgcnjlamcbaaGreatDoorRStack
import Derived.Test.YtdkpgcnjlamcbaaGreatDoorCStack
namespace Go.Proofs.YtdkpgcnjlamcbaaGreatDoor
set_option linter.unusedVariables false
set_option linter.unusedSimpArgs false
set_option linter.unusedSectionVars false
open Go.RowKit

set_option maxRecDepth 100000 in
set_option maxHeartbeats 4000000 in
theorem w_ReadStack (a0 : ByteArray) (w : World) (wf0 : a0.size ≤ maxLen) (hL : LibW w) :
    Calls Tryz.prog 3 #[.string a0] w (RetB true w) := by
  have hB := Below.refl w.heap.size w
  by_cases hs0 : (1048576 : Int) < a0.size
  · go_enter Tryz.func3, Tryz.ntmps3
    go_wp2
    go_ret
    exact ⟨rfl, Below.refl _ _⟩
  have hs0' : a0.size ≤ 1048576 := by omega
  go_enter Tryz.func3, Tryz.ntmps3
  go_wp2_with fail
  refine (S_ReadStack a0 _ hs0').mono ?_
  rintro e w1 ⟨xw0, Hxw0, rfl, hb⟩
  replace hB := hB.trans (hb.mono hB.size)
  have z1 := hb.size
  clear hb
  have hb : Below w1.heap.size w1 (w1.alloc (.cells #[.string xw0.fId, .int .i64 xw0.fMoisture, .int .i64 xw0.fThick, .int .i64 xw0.fSince] 23)) := (Below.refl _ _).alloc (Nat.le_refl _) _
  have hxR := range_new w1 #[.string xw0.fId, .int .i64 xw0.fMoisture, .int .i64 xw0.fThick, .int .i64 xw0.fSince] 23
  obtain ⟨w2, hWw0⟩ : ∃ W, (w1.alloc (.cells #[.string xw0.fId, .int .i64 xw0.fMoisture, .int .i64 xw0.fThick, .int .i64 xw0.fSince] 23)) = W := ⟨_, rfl⟩
  rw [hWw0] at hb hxR
  have hxw0_0 := hxR 0 _ rfl
  have hxw0_1 := hxR 1 _ rfl
  have hxw0_2 := hxR 2 _ rfl
  have hxw0_3 := hxR 3 _ rfl
  simp only [Nat.zero_add] at hxw0_0 hxw0_1 hxw0_2 hxw0_3
  clear hxR
  replace hB := hB.trans (hb.mono hB.size)
  have z2 : w1.heap.size ≤ w2.heap.size := hb.size
  clear hb
  go_wp2_with fail
  try rw [hWw0]
  clear hWw0
  refine (I_ReadStack a0 _ hs0' (hL.below hB)).mono ?_
  rintro e w3 ⟨xg0, Hxg0, rfl, hb⟩
  obtain rfl : xg0 = xw0 := Hxg0.out.trans Hxw0.out.symm
  replace hB := hB.trans (hb.mono hB.size)
  have z3 : w2.heap.size ≤ w3.heap.size := hb.size
  replace hxw0_0 := cell_later hb hxw0_0
  replace hxw0_1 := cell_later hb hxw0_1
  replace hxw0_2 := cell_later hb hxw0_2
  replace hxw0_3 := cell_later hb hxw0_3
  clear hb
  have hb : Below w3.heap.size w3 (w3.alloc (.cells #[.string xg0.fId, .int .i64 xg0.fMoisture, .int .i64 xg0.fThick, .int .i64 xg0.fSince] 23)) := (Below.refl _ _).alloc (Nat.le_refl _) _
  have hxR := range_new w3 #[.string xg0.fId, .int .i64 xg0.fMoisture, .int .i64 xg0.fThick, .int .i64 xg0.fSince] 23
  obtain ⟨w4, hWg0⟩ : ∃ W, (w3.alloc (.cells #[.string xg0.fId, .int .i64 xg0.fMoisture, .int .i64 xg0.fThick, .int .i64 xg0.fSince] 23)) = W := ⟨_, rfl⟩
  rw [hWg0] at hb hxR
  have hxg0_0 := hxR 0 _ rfl
  have hxg0_1 := hxR 1 _ rfl
  have hxg0_2 := hxR 2 _ rfl
  have hxg0_3 := hxR 3 _ rfl
  simp only [Nat.zero_add] at hxg0_0 hxg0_1 hxg0_2 hxg0_3
  clear hxR
  replace hB := hB.trans (hb.mono hB.size)
  have z4 : w3.heap.size ≤ w4.heap.size := hb.size
  replace hxw0_0 := cell_later hb hxw0_0
  replace hxw0_1 := cell_later hb hxw0_1
  replace hxw0_2 := cell_later hb hxw0_2
  replace hxw0_3 := cell_later hb hxw0_3
  clear hb
  go_wp2_with fail
  try rw [hWg0]
  clear hWg0
  refine (l_eqStack _ _).mono ?_
  rintro e w5 ⟨rfl, hb⟩
  replace hB := hB.trans (hb.mono hB.size)
  have z5 : w4.heap.size ≤ w5.heap.size := hb.size
  replace hxw0_0 := cell_later hb hxw0_0
  replace hxw0_1 := cell_later hb hxw0_1
  replace hxw0_2 := cell_later hb hxw0_2
  replace hxw0_3 := cell_later hb hxw0_3
  replace hxg0_0 := cell_later hb hxg0_0
  replace hxg0_1 := cell_later hb hxg0_1
  replace hxg0_2 := cell_later hb hxg0_2
  replace hxg0_3 := cell_later hb hxg0_3
  clear hb
  go_wp2
  go_ret
  exact ⟨rfl, hB⟩

end Go.Proofs.YtdkpgcnjlamcbaaGreatDoor
