/- The program's reading: a number, a list of numbers, a name before it; over the library's contracts. -/
import Derived.Test.YtbblkmnafdmcdaaDoorRows
import Derived.Test.YtbblkmnafdmcdaaDoorShelf
import Derived.Test.YtbblkmnafdmcdaaDoorSNum
import Derived.Test.YtbblkmnafdmcdaaDoorLibW
import Derived.Lib.AppendIntMem
import Derived.Lib.AtoiErrMem
namespace Go.Proofs.YtbblkmnafdmcdaaDoor
set_option linter.unusedVariables false
set_option linter.unusedSimpArgs false
set_option linter.unusedSectionVars false
open Go.RowKit

theorem str_cells (l : List ByteArray) : l.map Value.string = l.flatMap strE.cells := by
  induction l with
  | nil => rfl
  | cons x r ih => rw [List.map_cons, List.flatMap_cons, ih]; rfl
theorem GL.cuts (w : World) (c : UInt8) (s : ByteArray) (hl : (cutsB c s).length ≤ 4194304) : GL strE 9 w.heap.size (w.alloc (.cells ((cutsB c s).map Value.string).toArray 9)) (.slice (some ⟨w.heap.size, 0, none⟩) (cutsB c s).length (cutsB c s).length) (cutsB c s) := by
  have h := World.ownsRow_lit (base := w.heap.size) (e := 9) (size := 1) w ((cutsB c s).map Value.string).toArray (cutsB c s).length (Nat.le_refl _) (by unfold maxLen; omega) (by simp)
  rw [List.toList_toArray] at h
  unfold GL
  rw [← str_cells]
  exact h
theorem i_Split (s : ByteArray) (c : UInt8) (w : World) (hs : s.size ≤ 1048576) (hL : LibW w) :
    Calls Tryd.prog 16 #[.string s, .string ⟨#[c]⟩] w fun e w' => ∃ A n c', (cutsB c s).length = n ∧ n ≤ 1048577 ∧ e = .returned (.slice A n c') ∧ GL strE 9 w.heap.size w' (.slice A n c') (cutsB c s) ∧ Below w.heap.size w w' := by
  obtain ⟨m, hm⟩ := hL.max
  refine (Tryd.strings_Split s ⟨#[c]⟩ m w (by omega) hm (by simp [ByteArray.size])).mono ?_
  rintro e w1 ⟨rfl, rfl⟩
  have hl : (cutsB c s).length ≤ 1048577 := by
    unfold cutsB
    rw [List.length_map, cutsL_len]
    have := List.count_le_length (a := c) (l := s.data.toList)
    have e : s.data.toList.length = s.size := by simp
    omega
  rw [split_cuts, ← cutsB_len]
  exact ⟨_, _, _, rfl, hl, rfl, GL.cuts w c s (by omega), (Below.refl _ _).alloc (Nat.le_refl _) _⟩

end Go.Proofs.YtbblkmnafdmcdaaDoor
