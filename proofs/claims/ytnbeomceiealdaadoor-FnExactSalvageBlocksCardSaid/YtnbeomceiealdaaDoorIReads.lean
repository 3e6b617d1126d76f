/- The program's reading: a number, a list of numbers, a name before it; over the library's contracts. -/
import Derived.Test.YtnbeomceiealdaaDoorRows
import Derived.Test.YtnbeomceiealdaaDoorShelf
import Derived.Test.YtnbeomceiealdaaDoorSNum
import Derived.Test.YtnbeomceiealdaaDoorLibW
import Derived.Lib.AppendIntMem
import Derived.Lib.AtoiErrMem
namespace Go.Proofs.YtnbeomceiealdaaDoor
set_option linter.unusedVariables false
set_option linter.unusedSimpArgs false
set_option linter.unusedSectionVars false
open Go.RowKit

theorem i_Decimal (n : Int) (w : World) (h : -9223372036854775808 ≤ n ∧ n ≤ 9223372036854775807) (hL : LibW w) :
    Calls Tryd.prog 25 #[.int .i64 n] w fun e w' => e = .returned (.string (ofL (Lib.itoa n))) ∧ Below w.heap.size w w' := by
  go_enter Tryd.func25, Tryd.ntmps25
  go_wp2_with fail
  refine (Tryd.strconv_FormatInt_10 n h.1 h.2 _ hL.tab).mono ?_
  rintro e w1 ⟨rfl, k, os, rfl⟩
  go_wp2
  go_ret
  exact ⟨rfl, Lib.below_grow _ _ (Nat.le_refl _) _ _⟩

theorem str_cells (l : List ByteArray) : l.map Value.string = l.flatMap strE.cells := by
  induction l with
  | nil => rfl
  | cons x r ih => rw [List.map_cons, List.flatMap_cons, ih]; rfl
theorem GL.cuts (w : World) (c : UInt8) (s : ByteArray) (hl : (cutsB c s).length ≤ 4194304) : GL strE 9 w.heap.size (w.alloc (.cells ((cutsB c s).map Value.string).toArray 9)) (.slice (some ⟨w.heap.size, 0, none⟩) (cutsB c s).length (cutsB c s).length) (cutsB c s) := by
  have h := World.ownsRow_lit (base := w.heap.size) (e := 9) (size := 1) w ((cutsB c s).map Value.string).toArray (cutsB c s).length (Nat.le_refl _) (by unfold maxLen; omega) (by simp)
  rw [List.toList_toArray] at h
  unfold GL
  rw [← str_cells]
  exact h
theorem i_Split (s : ByteArray) (c : UInt8) (w : World) (hs : s.size ≤ 1048576) (hL : LibW w) :
    Calls Tryd.prog 31 #[.string s, .string ⟨#[c]⟩] w fun e w' => ∃ A n c', (cutsB c s).length = n ∧ n ≤ 1048577 ∧ e = .returned (.slice A n c') ∧ GL strE 9 w.heap.size w' (.slice A n c') (cutsB c s) ∧ Below w.heap.size w w' := by
  obtain ⟨m, hm⟩ := hL.max
  refine (Tryd.strings_Split s ⟨#[c]⟩ m w (by omega) hm (by simp [ByteArray.size])).mono ?_
  rintro e w1 ⟨rfl, rfl⟩
  have hl : (cutsB c s).length ≤ 1048577 := by
    unfold cutsB
    rw [List.length_map, cutsL_len]
    have := List.count_le_length (a := c) (l := s.data.toList)
    have e : s.data.toList.length = s.size := by simp
    omega
  rw [split_cuts, ← cutsB_len]
  exact ⟨_, _, _, rfl, hl, rfl, GL.cuts w c s (by omega), (Below.refl _ _).alloc (Nat.le_refl _) _⟩

end Go.Proofs.YtnbeomceiealdaaDoor
