/- Blocks that the call lays for a struct: what is known of them behind other calls. -/
import Derived.Test.YtbdjhecbingcjaaGreatDoorMem
namespace Go.Proofs.YtbdjhecbingcjaaGreatDoor
set_option linter.unusedVariables false
set_option linter.unusedSimpArgs false
set_option linter.unusedSectionVars false
open Go.RowKit

theorem new_free (w : World) (cs : Array Value) (t : TypeId) (j : Nat) : (w.alloc (.cells cs t)).frozen? ⟨w.heap.size, j, none⟩ = false := by
  unfold World.frozen?
  rw [show (w.alloc (.cells cs t)).heap[(⟨w.heap.size, j, none⟩ : Addr).block]? = some (.cells cs t (0, 0)) from heap_alloc_new w _]
  simp
theorem free_later {w w' : World} {p : Addr} (h : w.frozen? p = false) (hp : p.block < w.heap.size) (hb : Below w.heap.size w w') : w'.frozen? p = false := by
  unfold World.frozen? at *
  rw [hb.block p.block hp]
  exact h
theorem cell_set_some {w : World} {p q : Addr} {u v : Value} (h : w.cell? q = some u) : ∃ u', (w.setCell p v).cell? q = some u' := by
  by_cases e : p = q
  · subst e; exact ⟨v, World.cell?_setCell_same (w := w) (a := p) (v := v) h⟩
  · exact ⟨u, (World.cell?_setCell_other (w := w) (a := p) (b := q) (v := v) e).trans h⟩
theorem set_cells {g : Nat} : ∀ (vs : List Value) {w : World} (o : Nat), (∀ j, j < vs.length → ∃ u, w.cell? ⟨g, o + j, none⟩ = some u) → ∀ (j : Nat) v, vs[j]? = some v → (w.setCells g o vs).cell? ⟨g, o + j, none⟩ = some v
  | [], _, _, _, _, _, h => by cases h
  | x :: r, w, o, hh, j, v, h => by
    rw [World.setCells]
    have hr : ∀ j, j < r.length → ∃ u, (w.setCell ⟨g, o, none⟩ x).cell? ⟨g, o + 1 + j, none⟩ = some u := fun j hj => by
      obtain ⟨u, hu⟩ := hh (j + 1) (by simp; omega)
      rw [show o + (j + 1) = o + 1 + j by omega] at hu
      exact cell_set_some hu
    cases j with
    | zero =>
      simp only [List.getElem?_cons_zero, Option.some.injEq] at h
      subst h
      obtain ⟨u, hu⟩ := hh 0 (by simp)
      have h0 : (w.setCell ⟨g, o, none⟩ x).cell? ⟨g, o, none⟩ = some x := World.cell?_setCell_same (w := w) (a := ⟨g, o, none⟩) (v := x) hu
      have keep : ∀ (l : List Value) (W : World) (q : Nat), o < q → W.cell? ⟨g, o, none⟩ = some x → (W.setCells g q l).cell? ⟨g, o, none⟩ = some x := by
        intro l
        induction l with
        | nil => intro W q _ h; exact h
        | cons y s ih =>
          intro W q hq h
          rw [World.setCells]
          refine ih _ _ (by omega) ?_
          exact (World.cell?_setCell_other (w := W) (a := ⟨g, q, none⟩) (b := ⟨g, o, none⟩) (v := y) (fun e => by simp only [Addr.mk.injEq] at e; omega)).trans h
      exact keep r _ _ (by omega) h0
    | succ j =>
      have := set_cells r (o + 1) hr j v (by simpa using h)
      rw [show o + 1 + j = o + (j + 1) by omega] at this
      exact this
end Go.Proofs.YtbdjhecbingcjaaGreatDoor
