/- A loop whose body writes many slots: what the slots hold behind a round is one function of the slot's number. Nothing here speaks of the program. -/
import Derived.WalkKit
import Derived.Lib.Hide
namespace Go.Proofs.YtbdjhecbingcjaaGreatDoor
set_option linter.unusedVariables false
set_option linter.unusedSimpArgs false
set_option linter.unusedSectionVars false
open Go.RowKit

def slotL : List Value → Nat → Value
  | [], _ => undef
  | x :: _, 0 => x
  | _ :: r, i + 1 => slotL r i
/-- The frame is F of some slots, of which R holds; the measure lies below m. -/
inductive LoopFr (F : (Nat → Value) → List Value) (R : (Nat → Value) → World → Prop) (mu : (Nat → Value) → Nat) (m : Nat) (a : Act) (w : World) : Prop where
  | intro (U : Nat → Value) (hR : R U w) (ha : a = ⟨(F U).toArray, []⟩) (hm : mu (slotL a.tmps.toList) < m)
theorem LoopFr.of {F : (Nat → Value) → List Value} {R : (Nat → Value) → World → Prop} {mu : (Nat → Value) → Nat} {m : Nat} {l : List Value} {w : World}
    (h0 : l = F (slotL l)) (hR : R (slotL l) w) (hm : mu (slotL l) < m) : LoopFr F R mu m ⟨l.toArray, []⟩ w :=
  ⟨slotL l, hR, by rw [← h0], hm⟩
theorem wp_loop_U {P : Program} {c : Code} {Q : Exit → Act → World → Prop} {l : List Value} {w : World} (F : (Nat → Value) → List Value) (R : (Nat → Value) → World → Prop) (mu : (Nat → Value) → Nat)
    (h0 : l = F (slotL l)) (hR : R (slotL l) w)
    (round : ∀ U w' m, R U w' → Hid (mu (slotL (F U)) = m) → c.wp P (Exit.then (fun a' w'' => LoopFr F R mu m a' w'') Q) ⟨(F U).toArray, []⟩ w') : (Code.loop c).wp P Q ⟨l.toArray, []⟩ w := by
  have H := wp_loop (P := P) (c := c) (Q := Q) (a := ⟨l.toArray, []⟩) (w := w) (fun a w => ∃ U, R U w ∧ a = ⟨(F U).toArray, []⟩) (fun a _ => mu (slotL a.tmps.toList)) ⟨slotL l, hR, by rw [← h0]⟩
  refine H fun a w' hI => ?_
  obtain ⟨U, hU, rfl⟩ := hI
  have e : (fun a' w'' => LoopFr F R mu (mu (slotL (F U))) a' w'') = (fun a' w'' => (∃ U, R U w'' ∧ a' = ⟨(F U).toArray, []⟩) ∧ mu (slotL a'.tmps.toList) < mu (slotL (F U))) := by
    funext a' w''
    exact propext ⟨fun ⟨U', h1, h2, h3⟩ => ⟨⟨U', h1, h2⟩, h3⟩, fun ⟨⟨U', h1, h2⟩, h3⟩ => ⟨U', h1, h2, h3⟩⟩
  have h := round U w' _ hU (Lib.hid rfl)
  rw [e] at h
  exact h
end Go.Proofs.YtbdjhecbingcjaaGreatDoor
