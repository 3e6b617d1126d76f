/- Lists of pairs of numbers, each in a row of its own. -/
import Derived.Test.YthfedegmplmgfaaGreatDoorRows
import Derived.Test.YthfedegmplmgfaaGreatDoorMem
import Derived.Test.YthfedegmplmgfaaGreatDoorGrow
import Derived.Test.YthfedegmplmgfaaGreatDoorTouch
import Derived.Test.YthfedegmplmgfaaGreatDoorTwo
namespace Go.Proofs.YthfedegmplmgfaaGreatDoor
set_option linter.unusedVariables false
set_option linter.unusedSimpArgs false
set_option linter.unusedSectionVars false
open Go.RowKit

structure SlI where
  A : Option Addr
  n : Nat
  c : Nat
def slIE : Enc SlI := ⟨1, fun x => [.slice x.A x.n x.c], fun _ => rfl, by decide, fun _ u h => by simp at h; subst h; rfl⟩
theorem Tryz.info_slI : (Tryz.prog.info? 44).map (fun i => (i.zero, i.size, i.bytes)) = some (some (.slice none 0 0), 1, 24) := by kernel_rfl
/-- each row is read from a block of its own, apart from the row that holds them -/
structure RowsI (base : Nat) (w : World) (out : Value) (ps : List SlI) (L : List (List Int)) : Prop where
  len : ps.length = L.length
  row : ∀ (k : Nat) (p : SlI) (l : List Int), ps[k]? = some p → L[k]? = some l → ∃ g, p = ⟨some ⟨g, 0, none⟩, l.length, l.length⟩ ∧ w.rangeAt g 0 (l.flatMap intE.cells) ∧ g < w.heap.size ∧ base ≤ g ∧ out.ownBlock ≠ some g
theorem RowsI.nil {base : Nat} {w : World} {out : Value} : RowsI base w out [] [] := ⟨rfl, fun k p l h => by simp at h⟩
theorem RowsI.below {base : Nat} {w w' : World} {out : Value} {ps : List SlI} {L : List (List Int)} (h : RowsI base w out ps L) (hb : Below w.heap.size w w') : RowsI base w' out ps L :=
  ⟨h.len, fun k p l hp hl => by
    obtain ⟨g, h1, h2, h3, h4, h5⟩ := h.row k p l hp hl
    exact ⟨g, h1, range_below (B := 0) h2 hb, Nat.lt_of_lt_of_le h3 hb.size, h4, h5⟩⟩
theorem snoc_getI {α : Type} {l : List α} {j : Nat} {x y : α} (h : (l ++ [x])[j]? = some y) : (j = l.length ∧ y = x) ∨ l[j]? = some y := by
  have hl := (List.getElem?_eq_some_iff.1 h).1
  rw [List.length_append, List.length_singleton] at hl
  rcases Nat.lt_or_ge j l.length with h1 | h1
  · rw [List.getElem?_append_left h1] at h; exact .inr h
  · obtain rfl : j = l.length := by omega
    rw [List.getElem?_append_right (Nat.le_refl _), Nat.sub_self] at h
    exact .inl ⟨rfl, (Option.some.inj h).symm⟩
/-- a row is added -/
theorem RowsI.push {base : Nat} {w w' : World} {A A' : Option Addr} {n c n' c' g : Nat} {ps : List SlI} {L : List (List Int)} {l : List Int} (h : RowsI base w (.slice A n c) ps L) (hr : w.rangeAt g 0 (l.flatMap intE.cells)) (hg : g < w.heap.size) (hb : base ≤ g)
    (ho : Value.ownBlock (.slice A n c) ≠ some g) (ht : Touch (fun k => Value.ownBlock (.slice A n c) = some k) w w') (hn : ∀ k, Value.ownBlock (.slice A' n' c') = some k → Value.ownBlock (.slice A n c) = some k ∨ w.heap.size ≤ k) :
    RowsI base w' (.slice A' n' c') (ps ++ [⟨some ⟨g, 0, none⟩, l.length, l.length⟩]) (L ++ [l]) := by
  have hall : ∀ q, Value.ownBlock (.slice A n c) ≠ some q → q < w.heap.size → Value.ownBlock (.slice A' n' c') ≠ some q := fun q h1 h2 h3 => by
    rcases hn q h3 with h4 | h4
    · exact h1 h4
    · omega
  refine ⟨by rw [List.length_append, List.length_append, h.len]; rfl, fun k p m hp hm => ?_⟩
  rcases snoc_getI hp with ⟨h1, rfl⟩ | h1
  · rcases snoc_getI hm with ⟨_, rfl⟩ | h2
    · exact ⟨g, rfl, range_touch hr ht ho, Nat.lt_of_lt_of_le hg ht.size, hb, hall g ho hg⟩
    · have := (List.getElem?_eq_some_iff.1 h2).1
      have := h.len
      omega
  · rcases snoc_getI hm with ⟨h2, _⟩ | h2
    · have := (List.getElem?_eq_some_iff.1 h1).1
      have := h.len
      omega
    · obtain ⟨q, e1, e2, e3, e4, e5⟩ := h.row k p m h1 h2
      exact ⟨q, e1, range_touch e2 ht e5, Nat.lt_of_lt_of_le e3 ht.size, e4, hall q e5 e3⟩
theorem RowsI.rd {base : Nat} {w : World} {out : Value} {ps : List SlI} {L : List (List Int)} (h : RowsI base w out ps L) {k : Nat} {p : SlI} {l : List Int} (hp : ps[k]? = some p) (hl : L[k]? = some l) : Rd intE w p.A p.n l ∧ p.n = l.length := by
  obtain ⟨g, rfl, h2, _⟩ := h.row k p l hp hl
  refine ⟨⟨rfl, fun _ => ⟨g, 0, rfl, fun j x hx i u hu => ?_⟩⟩, rfl⟩
  have h3 := flat_get intE l j x hx i u hu
  have h4 := h2 (j * intE.k + i) u h3
  rw [show (0 + j * intE.k + i : Nat) = 0 + (j * intE.k + i) by omega]
  exact h4
end Go.Proofs.YthfedegmplmgfaaGreatDoor
