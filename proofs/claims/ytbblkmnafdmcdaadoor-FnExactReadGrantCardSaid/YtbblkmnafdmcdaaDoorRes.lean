/- A struct result lies in a block that the call lays first: what is known of it behind other calls. -/
import Derived.Test.YtbblkmnafdmcdaaDoorRows
import Derived.Test.YtbblkmnafdmcdaaDoorMem
import Derived.Test.YtbblkmnafdmcdaaDoorGrow
import Derived.Test.YtbblkmnafdmcdaaDoorSList
namespace Go.Proofs.YtbblkmnafdmcdaaDoor
set_option linter.unusedVariables false
set_option linter.unusedSimpArgs false
set_option linter.unusedSectionVars false
open Go.RowKit

theorem new_free (w : World) (cs : Array Value) (t : TypeId) (j : Nat) : (w.alloc (.cells cs t)).frozen? ⟨w.heap.size, j, none⟩ = false := by
  unfold World.frozen?
  rw [show (w.alloc (.cells cs t)).heap[(⟨w.heap.size, j, none⟩ : Addr).block]? = some (.cells cs t (0, 0)) from heap_alloc_new w _]
  simp
theorem free_later {w w' : World} {p : Addr} (h : w.frozen? p = false) (hp : p.block < w.heap.size) (hb : Below w.heap.size w w') : w'.frozen? p = false := by
  unfold World.frozen? at *
  rw [hb.block p.block hp]
  exact h
theorem GL.ints {base : Nat} {et : TypeId} {w : World} {A : Option Addr} {k c : Nat} {ns : List Int} (h : GL intE et base w (.slice A k c) ns) (hk : 0 < k) :
    ∃ g, A = some ⟨g, 0, none⟩ ∧ base ≤ g ∧ g < w.heap.size ∧ ∀ (j : Nat) (n : Int), ns[j]? = some n → w.cell? ⟨g, j, none⟩ = some (.int .i64 n) := by
  have ho := h.own.2
  obtain ⟨g, cap, hv, _, _⟩ := ho.form hk
  injection hv with hA
  subst hA
  obtain ⟨h1, h2⟩ := ho.lt g rfl
  refine ⟨g, rfl, h1, h2, fun j n hj => ?_⟩
  have h3 := ho.cells (g := g) rfl (j * 1) _ (flat_get intE ns j n hj 0 (.int .i64 n) rfl)
  rw [addr_add] at h3
  simpa using h3
theorem named_size {s : ByteArray} {k N : Nat} {a : List UInt8} {ns : List Int} (hs : s.size ≤ N) (h : namedL k s.data.toList = some (a, ns)) : a.length ≤ N := by
  unfold namedL at h
  split at h
  · rename_i x b hc
    split at h
    · split at h
      · simp only [Option.some.injEq, Prod.mk.injEq] at h
        have h1 := cuts_sub (c := 32) (l := s.data.toList) (p := x) (by rw [hc]; exact List.mem_cons_self ..)
        have h2 : s.data.toList.length = s.size := by simp
        rw [← h.1]
        omega
      · cases h
    · cases h
  · cases h
theorem cell_set_some {w : World} {p q : Addr} {u v : Value} (h : w.cell? q = some u) : ∃ u', (w.setCell p v).cell? q = some u' := by
  by_cases e : p = q
  · subst e; exact ⟨v, World.cell?_setCell_same (w := w) (a := p) (v := v) h⟩
  · exact ⟨u, (World.cell?_setCell_other (w := w) (a := p) (b := q) (v := v) e).trans h⟩
theorem set_cells {g : Nat} : ∀ (vs : List Value) {w : World} (o : Nat), (∀ j, j < vs.length → ∃ u, w.cell? ⟨g, o + j, none⟩ = some u) → ∀ (j : Nat) v, vs[j]? = some v → (w.setCells g o vs).cell? ⟨g, o + j, none⟩ = some v
  | [], _, _, _, _, _, h => by cases h
  | x :: r, w, o, hh, j, v, h => by
    rw [World.setCells]
    have hr : ∀ j, j < r.length → ∃ u, (w.setCell ⟨g, o, none⟩ x).cell? ⟨g, o + 1 + j, none⟩ = some u := fun j hj => by
      obtain ⟨u, hu⟩ := hh (j + 1) (by simp; omega)
      rw [show o + (j + 1) = o + 1 + j by omega] at hu
      exact cell_set_some hu
    cases j with
    | zero =>
      simp only [List.getElem?_cons_zero, Option.some.injEq] at h
      subst h
      obtain ⟨u, hu⟩ := hh 0 (by simp)
      have h0 : (w.setCell ⟨g, o, none⟩ x).cell? ⟨g, o, none⟩ = some x := World.cell?_setCell_same (w := w) (a := ⟨g, o, none⟩) (v := x) hu
      have keep : ∀ (l : List Value) (W : World) (q : Nat), o < q → W.cell? ⟨g, o, none⟩ = some x → (W.setCells g q l).cell? ⟨g, o, none⟩ = some x := by
        intro l
        induction l with
        | nil => intro W q _ h; exact h
        | cons y s ih =>
          intro W q hq h
          rw [World.setCells]
          refine ih _ _ (by omega) ?_
          exact (World.cell?_setCell_other (w := W) (a := ⟨g, q, none⟩) (b := ⟨g, o, none⟩) (v := y) (fun e => by simp only [Addr.mk.injEq] at e; omega)).trans h
      exact keep r _ _ (by omega) h0
    | succ j =>
      have := set_cells r (o + 1) hr j v (by simpa using h)
      rw [show o + 1 + j = o + (j + 1) by omega] at this
      exact this
end Go.Proofs.YtbblkmnafdmcdaaDoor
