/- More on what a source of choices turns. -/
import Derived.Test.YtbdjhecbingcjaaGreatDoorRows
import Derived.Test.YtbdjhecbingcjaaGreatDoorSrc
import Derived.Test.YtbdjhecbingcjaaGreatDoorTwo
namespace Go.Proofs.YtbdjhecbingcjaaGreatDoor
set_option linter.unusedVariables false
set_option linter.unusedSimpArgs false
set_option linter.unusedSectionVars false
open Go.RowKit

theorem SrcW.lt {g m : Nat} {w : World} (h : SrcW g m w) : g < w.heap.size := by obtain ⟨_, _, _, _, _, _, _, _, h, _⟩ := h; exact h
theorem Touch.setNew {F : Nat → Prop} {w W : World} (h : Touch F w W) {p : Addr} (hp : w.heap.size ≤ p.block) (v : Value) : Touch F w (W.setCell p v) :=
  ⟨h.os, h.tape, h.output, by have := h.size; simpa [World.setCell] using this, fun k hk hF => (Below.heap_setCell _ _ _ _ fun e => by subst e; omega).trans (h.block k hk hF)⟩
theorem Touch.setsNew {F : Nat → Prop} {w : World} {g : Nat} (hp : w.heap.size ≤ g) (vs : List Value) : ∀ {W : World} (o : Nat), Touch F w W → Touch F w (W.setCells g o vs) := by
  induction vs with
  | nil => intro W o h; exact h
  | cons v r ih => intro W o h; rw [World.setCells]; exact ih (o + 1) (h.setNew (p := ⟨g, o, none⟩) hp v)
theorem Touch.allocT {F : Nat → Prop} {w W : World} (h : Touch F w W) (o : Obj) : Touch F w (W.alloc o) := h.trans (Touch.alloc W o)
theorem Touch.transNew {F G : Nat → Prop} {w W W' : World} (h : Touch F w W) (h' : Touch G W W') (hG : ∀ k, G k → w.heap.size ≤ k) : Touch F w W' :=
  ⟨h'.os.trans h.os, h'.tape.trans h.tape, h'.output.trans h.output, Nat.le_trans h.size h'.size, fun k hk hF => (h'.block k (Nat.lt_of_lt_of_le hk h.size) fun e => by have := hG k e; omega).trans (h.block k hk hF)⟩
theorem pair_next {α : Type} {R : α → α → Prop} {l : List α} (h : l.Pairwise R) {j : Nat} {p x : α} (hp : l[j]? = some p) (hx : l[j + 1]? = some x) : R p x := by
  obtain ⟨h1, rfl⟩ := List.getElem?_eq_some_iff.1 hp
  obtain ⟨h2, rfl⟩ := List.getElem?_eq_some_iff.1 hx
  exact List.pairwise_iff_getElem.1 h j (j + 1) h1 h2 (by omega)
end Go.Proofs.YtbdjhecbingcjaaGreatDoor
