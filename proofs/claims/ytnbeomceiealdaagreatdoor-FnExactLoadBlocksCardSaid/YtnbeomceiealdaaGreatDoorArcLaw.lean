/- The lines of an archive: plain texts. -/
import Derived.Test.YtnbeomceiealdaaGreatDoorRows
import Derived.Test.YtnbeomceiealdaaGreatDoorCrcLaw
import Derived.Test.YtnbeomceiealdaaGreatDoorDecLaw
import Derived.Test.YtnbeomceiealdaaGreatDoorBlocks
namespace Go.Proofs.YtnbeomceiealdaaGreatDoor
set_option linter.unusedVariables false
set_option linter.unusedSimpArgs false
set_option linter.unusedSectionVars false
open Go.RowKit

abbrev bl (s : ByteArray) : List UInt8 := s.data.toList
theorem bl_size (s : ByteArray) : (bl s).length = s.size := by simp [bl]
theorem bl_app (a b : ByteArray) : bl (a ++ b) = bl a ++ bl b := by simp [bl]
theorem eq_ofL {a : ByteArray} {l : List UInt8} (h : bl a = l) : a = ofL l := by rw [← h]; exact (ofL_self a).symm
theorem bl_ofL (l : List UInt8) : bl (ofL l) = l := ofL_data l
theorem ofL_app (a b : List UInt8) : ofL a ++ ofL b = ofL (a ++ b) := eq_ofL (by rw [bl_app, bl_ofL, bl_ofL])
theorem bl_inj {a b : ByteArray} (h : bl a = bl b) : a = b := by rw [← ofL_self a, ← ofL_self b, show a.data.toList = b.data.toList from h]
def restL (x : DBlock) : List UInt8 := bl x.fKind ++ (32 :: (bl x.fName ++ (32 :: bl x.fText)))
def lineL (r : List UInt8) : List UInt8 := fiveL (crcL r 65535) ++ (32 :: r)
theorem crc_lt (r : List UInt8) : crcL r 65535 < 65536 := crcL_lt r (by decide)
theorem five_len (r : List UInt8) : (fiveL (crcL r 65535)).length = 5 := fiveL_length (by have := crc_lt r; omega)
theorem line_len (r : List UInt8) : (lineL r).length = r.length + 6 := by unfold lineL; rw [List.length_append, five_len, List.length_cons]; omega
theorem rest_len (x : DBlock) : (restL x).length = x.fKind.size + x.fName.size + x.fText.size + 2 := by
  unfold restL
  simp only [List.length_append, List.length_cons, bl_size]
  omega
theorem block_small {x : DBlock} (h : blockB x = true) : x.fKind.size ≤ 10 ∧ x.fName.size ≤ 10 ∧ x.fText.size ≤ 400 := by
  unfold blockB at h
  simp only [Bool.and_eq_true, decide_eq_true_eq] at h
  have n : ∀ {s}, nameB s = true → s.size ≤ 10 := fun {s} h => by
    unfold nameB at h
    rw [Bool.and_eq_true, Bool.and_eq_true] at h
    have := of_decide_eq_true h.2.2
    omega
  exact ⟨n h.1, n h.2.1, by omega⟩
end Go.Proofs.YtnbeomceiealdaaGreatDoor
