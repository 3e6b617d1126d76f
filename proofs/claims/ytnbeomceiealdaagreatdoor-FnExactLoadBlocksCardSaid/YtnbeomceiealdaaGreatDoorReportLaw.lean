/- The lines of a text, in plain words. -/
import Derived.Test.YtnbeomceiealdaaGreatDoorPieces
namespace Go.Proofs.YtnbeomceiealdaaGreatDoor
set_option linter.unusedVariables false
set_option linter.unusedSimpArgs false
set_option linter.unusedSectionVars false

theorem cuts_snoc (c : UInt8) : ∀ b : List UInt8, cutsL c (b ++ [c]) = cutsL c b ++ [[]]
  | [] => by simp [cutsL]
  | x :: r => by
    rw [List.cons_append, cutsL, cutsL, cuts_snoc c r]
    split
    · rfl
    · cases h : cutsL c r with
      | nil => exact absurd h (cutsL_ne c r)
      | cons p q => rfl
theorem cuts_last (c x : UInt8) (hx : x ≠ c) : ∀ b : List UInt8, ∃ q p, cutsL c (b ++ [x]) = q ++ [p] ∧ p ≠ []
  | [] => ⟨[], [x], by simp [cutsL, hx, consH], by simp⟩
  | y :: r => by
    obtain ⟨q, p, h, hp⟩ := cuts_last c x hx r
    rw [List.cons_append, cutsL, h]
    split
    · exact ⟨[] :: q, p, rfl, hp⟩
    · cases q with
      | nil => exact ⟨[], y :: p, rfl, by simp⟩
      | cons a t => exact ⟨(y :: a) :: t, p, rfl, hp⟩
/-- the lines of a text that ends with a newline, or of none -/
def linesOf (s : ByteArray) : Option (List ByteArray) := if s.data.toList = [] then some [] else if [10] <:+ s.data.toList then some (cutsB 10 (ofL s.data.toList.dropLast)) else none
theorem linesOf_nil {s : ByteArray} (h : s.data.toList = []) : linesOf s = some [] ∧ cutsB 10 s = [] ++ [⟨#[]⟩] := by
  unfold linesOf cutsB
  rw [if_pos h, h]
  exact ⟨rfl, rfl⟩
theorem linesOf_some {s : ByteArray} (h : s.data.toList ≠ []) (h' : [10] <:+ s.data.toList) : linesOf s = some (cutsB 10 (ofL s.data.toList.dropLast)) ∧ cutsB 10 s = cutsB 10 (ofL s.data.toList.dropLast) ++ [⟨#[]⟩] := by
  unfold linesOf
  rw [if_neg h, if_pos h']
  refine ⟨rfl, ?_⟩
  obtain ⟨t, ht⟩ := h'
  have e : s.data.toList.dropLast = t := by rw [← ht]; simp
  unfold cutsB
  rw [e, ofL_data, ← ht, cuts_snoc, List.map_append]
  rfl
theorem linesOf_none {s : ByteArray} (h : s.data.toList ≠ []) (h' : ¬ [10] <:+ s.data.toList) : linesOf s = none ∧ ∃ q p, cutsB 10 s = q ++ [p] ∧ p.data.toList ≠ [] := by
  unfold linesOf
  rw [if_neg h, if_neg h']
  refine ⟨rfl, ?_⟩
  have hd := List.dropLast_concat_getLast h
  have hne : s.data.toList.getLast h ≠ 10 := fun e => h' ⟨s.data.toList.dropLast, by rw [← e]; exact hd⟩
  obtain ⟨q, p, h1, h2⟩ := cuts_last 10 _ hne s.data.toList.dropLast
  rw [hd] at h1
  refine ⟨q.map ofL, ofL p, ?_, by rw [ofL_data]; exact h2⟩
  unfold cutsB
  rw [h1, List.map_append]
  rfl

end Go.Proofs.YtnbeomceiealdaaGreatDoor
