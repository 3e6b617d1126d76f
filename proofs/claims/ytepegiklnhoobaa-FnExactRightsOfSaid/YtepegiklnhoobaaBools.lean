/- Lists of booleans of the call's own; one place of a one-cell list set and read. -/
import Derived.Test.YtepegiklnhoobaaRows
import Derived.Test.YtepegiklnhoobaaTwo
namespace Go.Proofs.Ytepegiklnhoobaa
set_option linter.unusedVariables false
set_option linter.unusedSimpArgs false
set_option linter.unusedSectionVars false
open Go.RowKit

def boolE : Enc Bool := ⟨1, fun b => [.bool b], fun _ => rfl, by decide, fun _ u h => by simp at h; subst h; rfl⟩
section
variable {α : Type} {E : Enc α} {et : TypeId} {base g n c j : Nat} {w : World} {l : List α} {x : α} {u : Value}
theorem GL.set1 (h : GL E et base w (.slice (some ⟨g, 0, none⟩) n c) l) (hE : E.k = 1) (hu : E.cells x = [u]) (hj : j < n) : GL E et base (w.setCell ⟨g, j, none⟩ u) (.slice (some ⟨g, 0, none⟩) n c) (l.set j x) := by
  have hl := h.len
  have h1 := h.splice j [x] (by simp; omega)
  have e5 : w.setCells g (j * E.k) ([x].flatMap E.cells) = w.setCell ⟨g, j, none⟩ u := by
    rw [hE, Nat.mul_one]
    simp only [List.flatMap_cons, List.flatMap_nil, List.append_nil, hu]
    rfl
  rw [e5] at h1
  have e : l.take j ++ [x] ++ l.drop (j + [x].length) = l.set j x := by
    rw [List.set_eq_take_append_cons_drop, if_pos (by omega)]
    simp
  rw [e] at h1
  exact h1
theorem GL.get1 (h : GL E et base w (.slice (some ⟨g, 0, none⟩) n c) l) (hE : E.k = 1) (hu : E.cells x = [u]) (hj : l[j]? = some x) : w.cell? ⟨g, j, none⟩ = some u := by
  have h1 := h.range j
  obtain ⟨a, b⟩ := List.getElem?_eq_some_iff.1 hj
  rw [show l.drop j = x :: l.drop (j + 1) by rw [← b, List.getElem_cons_drop]] at h1
  have h2 := h1 0 u (by rw [List.flatMap_cons, hu]; rfl)
  rw [show j * E.k = j by rw [hE, Nat.mul_one]] at h2
  exact h2
end
theorem Try.info_bool : (Try.prog.info? 4).map (fun i => (i.zero, i.size, i.bytes)) = some (some (.bool false), 1, 1) := by kernel_rfl
theorem GL.falses (w : World) (et : TypeId) (n : Nat) (hn : n ≤ maxLen) (base : Nat) (hb : base ≤ w.heap.size) : GL boolE et base (w.alloc (.cells (madeCells #[.bool false] n) et)) (.slice (some ⟨w.heap.size, 0, none⟩) n n) (List.replicate n false) := by
  have h := toList_madeCells boolE (z := #[.bool false]) (x := false) rfl n
  rw [show n * boolE.k = n from Nat.mul_one _] at h
  unfold GL
  rw [List.length_replicate]
  refine ⟨by rw [flat_len, List.length_replicate], .inr ⟨w.heap.size, n, madeCells #[.bool false] n, rfl, hb, heap_alloc_new w _, Nat.le_refl _, hn, ?_, ?_⟩⟩
  · rw [size_madeCells, show n * boolE.k = n from Nat.mul_one _]
  · rw [h, List.take_of_length_le (by rw [flat_len, List.length_replicate]; exact Nat.le_refl _)]
end Go.Proofs.Ytepegiklnhoobaa
