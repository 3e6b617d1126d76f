/- Names that rise are told apart. -/
import Derived.Test.YthfedegmplmgfaaGreatDoorCountLaw
namespace Go.Proofs.YthfedegmplmgfaaGreatDoor
set_option linter.unusedVariables false
set_option linter.unusedSimpArgs false
set_option linter.unusedSectionVars false

theorem less_ne {a b : ByteArray} (h : Op.bytesLess a.toList b.toList = true) : leS a b ∧ a ≠ b := ⟨less_leS a b h, fun e => by
  subst e
  rw [ByteArray.toList_eq, bytesLess_eq, decide_eq_true_eq] at h
  exact List.lt_irrefl _ h⟩
theorem ne_trans {a b c : ByteArray} (h1 : leS a b ∧ a ≠ b) (h2 : leS b c ∧ b ≠ c) : leS a c ∧ a ≠ c := ⟨leS_trans h1.1 h2.1, fun e => by
  subst e
  exact h1.2 (leS_antisymm h1.1 h2.1)⟩
section
variable {α : Type} {f : α → ByteArray} {l : List α}
def AscBy (f : α → ByteArray) (l : List α) : Prop := ∀ (j : Nat) (p x : α), l[j]? = some p → l[j + 1]? = some x → Op.bytesLess (f p).toList (f x).toList = true
theorem AscBy.far (h : AscBy f l) : ∀ (k j : Nat) (x y : α), l[j]? = some x → l[j + (k + 1)]? = some y → leS (f x) (f y) ∧ f x ≠ f y := by
  intro k
  induction k with
  | zero => intro j x y hx hy; exact less_ne (h j x y hx hy)
  | succ k ih =>
    intro j x y hx hy
    have hlt := (List.getElem?_eq_some_iff.1 hy).1
    obtain ⟨z, hz⟩ : ∃ z, l[j + 1]? = some z := ⟨_, List.getElem?_eq_getElem (by omega)⟩
    exact ne_trans (less_ne (h j x z hx hz)) (ih (j + 1) z y hz (by rw [show j + 1 + (k + 1) = j + (k + 1 + 1) by omega]; exact hy))
theorem AscBy.at (h : AscBy f l) {j k : Nat} {x y : α} (hj : l[j]? = some x) (hk : l[k]? = some y) (he : f x = f y) : j = k := by
  rcases Nat.lt_trichotomy j k with h1 | h1 | h1
  · exact absurd he (h.far (k - j - 1) j x y hj (by rw [show j + (k - j - 1 + 1) = k by omega]; exact hk)).2
  · exact h1
  · exact absurd he.symm (h.far (j - k - 1) k y x hk (by rw [show k + (j - k - 1 + 1) = j by omega]; exact hj)).2
theorem AscBy.one (h : AscBy f l) {x y : α} (hx : x ∈ l) (hy : y ∈ l) (he : f x = f y) : x = y := by
  obtain ⟨j, hj⟩ := List.mem_iff_getElem?.1 hx
  obtain ⟨k, hk⟩ := List.mem_iff_getElem?.1 hy
  have := h.at hj hk he
  subst this
  rw [hj] at hk
  exact Option.some.inj hk
end
end Go.Proofs.YthfedegmplmgfaaGreatDoor
