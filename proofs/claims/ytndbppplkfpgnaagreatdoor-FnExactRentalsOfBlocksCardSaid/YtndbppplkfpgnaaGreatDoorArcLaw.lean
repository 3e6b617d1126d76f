/- The lines of an archive: plain texts. -/
import Derived.Test.YtndbppplkfpgnaaGreatDoorRows
import Derived.Test.YtndbppplkfpgnaaGreatDoorCrcLaw
import Derived.Test.YtndbppplkfpgnaaGreatDoorDecLaw
import Derived.Test.YtndbppplkfpgnaaGreatDoorBlocks
namespace Go.Proofs.YtndbppplkfpgnaaGreatDoor
set_option linter.unusedVariables false
set_option linter.unusedSimpArgs false
set_option linter.unusedSectionVars false
open Go.RowKit

abbrev bl (s : ByteArray) : List UInt8 := s.data.toList
theorem bl_size (s : ByteArray) : (bl s).length = s.size := by simp [bl]
theorem bl_app (a b : ByteArray) : bl (a ++ b) = bl a ++ bl b := by simp [bl]
theorem eq_ofL {a : ByteArray} {l : List UInt8} (h : bl a = l) : a = ofL l := by rw [← h]; exact (ofL_self a).symm
theorem bl_ofL (l : List UInt8) : bl (ofL l) = l := ofL_data l
theorem ofL_app (a b : List UInt8) : ofL a ++ ofL b = ofL (a ++ b) := eq_ofL (by rw [bl_app, bl_ofL, bl_ofL])
theorem bl_inj {a b : ByteArray} (h : bl a = bl b) : a = b := by rw [← ofL_self a, ← ofL_self b, show a.data.toList = b.data.toList from h]
def restL (x : DBlock) : List UInt8 := bl x.fKind ++ (32 :: (bl x.fName ++ (32 :: bl x.fText)))
def lineL (r : List UInt8) : List UInt8 := fiveL (crcL r 65535) ++ (32 :: r)
theorem crc_lt (r : List UInt8) : crcL r 65535 < 65536 := crcL_lt r (by decide)
theorem five_len (r : List UInt8) : (fiveL (crcL r 65535)).length = 5 := fiveL_length (by have := crc_lt r; omega)
theorem line_len (r : List UInt8) : (lineL r).length = r.length + 6 := by unfold lineL; rw [List.length_append, five_len, List.length_cons]; omega
theorem rest_len (x : DBlock) : (restL x).length = x.fKind.size + x.fName.size + x.fText.size + 2 := by
  unfold restL
  simp only [List.length_append, List.length_cons, bl_size]
  omega
theorem block_small {x : DBlock} (h : blockB x = true) : x.fKind.size ≤ 10 ∧ x.fName.size ≤ 10 ∧ x.fText.size ≤ 400 := by
  unfold blockB at h
  simp only [Bool.and_eq_true, decide_eq_true_eq] at h
  have n : ∀ {s}, nameB s = true → s.size ≤ 10 := fun {s} h => by
    unfold nameB at h
    rw [Bool.and_eq_true, Bool.and_eq_true] at h
    have := of_decide_eq_true h.2.2
    omega
  exact ⟨n h.1, n h.2.1, by omega⟩
def headL (n : Nat) : List UInt8 := [97, 114, 99, 104, 105, 118, 101, 32] ++ (Lib.itoa (n : Int) ++ [10])
def saveTo (l : List DBlock) (k : Nat) : List UInt8 := headL l.length ++ (l.take k).flatMap fun x => lineL (restL x) ++ [10]
theorem save_step {l : List DBlock} {k : Nat} {x : DBlock} (hx : l[k]? = some x) : saveTo l (k + 1) = saveTo l k ++ (lineL (restL x) ++ [10]) := by
  unfold saveTo
  rw [List.take_add_one, hx]
  simp
theorem save_zero (l : List DBlock) : saveTo l 0 = headL l.length := by simp [saveTo]
def saveT (l : List DBlock) : ByteArray := if blocksB l then ofL (saveTo l l.length) else ⟨#[]⟩
def saveCode (l : List DBlock) : Int := if blocksB l then 0 else 1
theorem save_bad {l : List DBlock} (h : blocksB l = false) : saveT l = ⟨#[]⟩ ∧ saveCode l = 1 := by
  unfold saveT saveCode
  rw [h]
  exact ⟨rfl, rfl⟩
theorem save_ok {l : List DBlock} (h : blocksB l = true) : saveT l = ofL (saveTo l l.length) ∧ saveCode l = 0 := by
  unfold saveT saveCode
  rw [h]
  exact ⟨rfl, rfl⟩
theorem chain_mem {α : Type} {p : α → Bool} {r : α → α → Bool} : ∀ {l : List α} {o : Option α}, chainB p r o l = true → ∀ x ∈ l, p x = true
  | [], _, _, x, hx => by cases hx
  | y :: t, o, h, x, hx => by
    have h2 : p y = true ∧ chainB p r (some y) t = true := by
      cases o with
      | none => simpa [chainB, Bool.and_eq_true] using h
      | some z => simp only [chainB, Bool.and_eq_true] at h; exact ⟨h.1, h.2.2⟩
    rcases List.mem_cons.1 hx with rfl | hx
    · exact h2.1
    · exact chain_mem h2.2 x hx
theorem blocks_mem {l : List DBlock} (h : blocksB l = true) : (∀ x ∈ l, blockB x = true) ∧ l.length ≤ 32 := by
  unfold blocksB at h
  rw [Bool.and_eq_true, decide_eq_true_eq] at h
  exact ⟨chain_mem h.1, by omega⟩
theorem save_len {l : List DBlock} (h : blocksB l = true) (k : Nat) : (saveTo l k).length ≤ 100 + 500 * k := by
  obtain ⟨h1, h2⟩ := blocks_mem h
  induction k with
  | zero =>
    rw [save_zero]
    unfold headL
    have := nDigits_le (n := l.length) (by omega)
    simp only [List.length_append, List.length_cons, List.length_nil]
    omega
  | succ k ih =>
    rcases Nat.lt_or_ge k l.length with hk | hk
    · rw [save_step (List.getElem?_eq_getElem hk)]
      have hb := block_small (h1 _ (List.getElem_mem hk))
      rw [List.length_append, List.length_append, line_len, rest_len, List.length_singleton]
      omega
    · have : saveTo l (k + 1) = saveTo l k := by
        unfold saveTo
        rw [List.take_of_length_le hk, List.take_of_length_le (by omega)]
      rw [this]
      omega
end Go.Proofs.YtndbppplkfpgnaaGreatDoor
