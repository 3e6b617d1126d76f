/- The block of a line, and its code: plain law. -/
import Derived.Test.YtnbeomceiealdaaGreatDoorRows
import Derived.Test.YtnbeomceiealdaaGreatDoorArcLaw
namespace Go.Proofs.YtnbeomceiealdaaGreatDoor
set_option linter.unusedVariables false
set_option linter.unusedSimpArgs false
set_option linter.unusedSectionVars false
open Go.RowKit

def noBlock : DBlock := ⟨⟨#[]⟩, ⟨#[]⟩, ⟨#[]⟩⟩
/-- the block of a rest -/
def blockOf (r : List UInt8) : DBlock := ⟨ofL (headC 32 r), ofL (headC 32 (tailC 32 r)), ofL (tailC 32 (tailC 32 r))⟩
def goodRest (r : List UInt8) : Bool := decide (32 ∈ r) && (decide (32 ∈ tailC 32 r) && blockB (blockOf r))
def lineOk (l : List UInt8) : Bool := decide (6 ≤ l.length) && decide (l[5]? = some 32)
def sumOk (l : List UInt8) : Bool := decide (l.take 5 = fiveL (crcL (l.drop 6) 65535))
def codeP (l : List UInt8) : Int := if lineOk l then (if sumOk l then (if goodRest (l.drop 6) then 0 else 9) else 10) else 9
def blockP (l : List UInt8) : DBlock := if codeP l = 0 then blockOf (l.drop 6) else noBlock
theorem parse_short {l : List UInt8} (h : l.length < 6) : codeP l = 9 ∧ blockP l = noBlock := by
  have : codeP l = 9 := by unfold codeP lineOk; rw [decide_eq_false (by omega)]; rfl
  exact ⟨this, by unfold blockP; rw [this]; rfl⟩
theorem parse_no {l : List UInt8} (h : l[5]? ≠ some 32) : codeP l = 9 ∧ blockP l = noBlock := by
  have : codeP l = 9 := by unfold codeP lineOk; rw [decide_eq_false h, Bool.and_false]; rfl
  exact ⟨this, by unfold blockP; rw [this]; rfl⟩
theorem line_ok {l : List UInt8} (h : 6 ≤ l.length) (h5 : l[5]? = some 32) : lineOk l = true := by unfold lineOk; rw [decide_eq_true h, decide_eq_true h5]; rfl
theorem parse_sum {l : List UInt8} (h : lineOk l = true) (hs : l.take 5 ≠ fiveL (crcL (l.drop 6) 65535)) : codeP l = 10 ∧ blockP l = noBlock := by
  have : codeP l = 10 := by unfold codeP sumOk; rw [h, decide_eq_false hs]; rfl
  exact ⟨this, by unfold blockP; rw [this]; rfl⟩
theorem parse_rest {l : List UInt8} (h : lineOk l = true) (hs : l.take 5 = fiveL (crcL (l.drop 6) 65535)) (hg : goodRest (l.drop 6) = false) : codeP l = 9 ∧ blockP l = noBlock := by
  have : codeP l = 9 := by unfold codeP sumOk; rw [h, decide_eq_true hs, hg]; rfl
  exact ⟨this, by unfold blockP; rw [this]; rfl⟩
theorem parse_good {l : List UInt8} (h : lineOk l = true) (hs : l.take 5 = fiveL (crcL (l.drop 6) 65535)) (hg : goodRest (l.drop 6) = true) : codeP l = 0 ∧ blockP l = blockOf (l.drop 6) := by
  have : codeP l = 0 := by unfold codeP sumOk; rw [h, decide_eq_true hs, hg]; rfl
  exact ⟨this, by unfold blockP; rw [this]; rfl⟩
theorem good_one {r : List UInt8} (h : 32 ∉ r) : goodRest r = false := by unfold goodRest; rw [decide_eq_false h]; rfl
theorem good_two {r : List UInt8} (h : 32 ∉ tailC 32 r) : goodRest r = false := by unfold goodRest; rw [decide_eq_false h]; simp
theorem good_all {r : List UInt8} (h : 32 ∈ r) (h2 : 32 ∈ tailC 32 r) : goodRest r = blockB (blockOf r) := by unfold goodRest; rw [decide_eq_true h, decide_eq_true h2]; rfl
/-- the whole line is told by its sum and its rest -/
theorem line_iff {l : List UInt8} (h : 6 ≤ l.length) (h5 : l[5]? = some 32) : lineL (l.drop 6) = l ↔ l.take 5 = fiveL (crcL (l.drop 6) 65535) := by
  have e : l = l.take 5 ++ (32 :: l.drop 6) := by
    conv => lhs; rw [← List.take_append_drop 5 l]
    congr 1
    obtain ⟨h6, hx⟩ := List.getElem?_eq_some_iff.1 h5
    rw [List.drop_eq_getElem_cons h6, hx]
  unfold lineL
  constructor
  · intro hl
    have h1 : (fiveL (crcL (l.drop 6) 65535) ++ 32 :: l.drop 6).take 5 = l.take 5 := by rw [hl]
    rw [List.take_left' (five_len _)] at h1
    exact h1.symm
  · intro hs
    rw [← hs, ← e]
/-- the place of a byte: nothing of it ahead -/
theorem head_len {c : UInt8} {l : List UInt8} {i : Nat} (hi : i ≤ l.length) (hno : ∀ j, j < i → l[j]? ≠ some c) (hat : i < l.length → l[i]? = some c) : headC c l = l.take i ∧ tailC c l = l.drop (i + 1) ∧ (c ∈ l ↔ i < l.length) := by
  induction l generalizing i with
  | nil =>
    simp at hi
    subst hi
    simp [headC, tailC]
  | cons x r ih =>
    cases i with
    | zero =>
      have := hat (by simp)
      simp at this
      subst this
      simp [headC, tailC]
    | succ i =>
      have hx : x ≠ c := fun e => hno 0 (by omega) (by simp [e])
      have hne : (x != c) = true := by simpa using hx
      obtain ⟨h1, h2, h3⟩ := ih (i := i) (by simp at hi; omega) (fun j hj => by have := hno (j + 1) (by omega); simpa using this) (fun h => by have := hat (by simp; omega); simpa using this)
      unfold headC tailC at *
      rw [List.takeWhile_cons_of_pos (p := fun y => y != c) hne, List.dropWhile_cons_of_pos (p := fun y => y != c) hne, h1, h2]
      refine ⟨by simp, by simp, ?_⟩
      rw [List.mem_cons, h3]
      simp
      intro e
      exact absurd e.symm hx
end Go.Proofs.YtnbeomceiealdaaGreatDoor
