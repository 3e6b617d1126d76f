/- A text out of some that the source of choices picks. -/
import Derived.Test.YtbgmhlbcohdobaaGreatDoorRows
import Derived.Test.YtbgmhlbcohdobaaGreatDoorSrc
import Derived.Test.YtbgmhlbcohdobaaGreatDoorSrcMore
namespace Go.Proofs.YtbgmhlbcohdobaaGreatDoor
set_option linter.unusedVariables false
set_option linter.unusedSimpArgs false
set_option linter.unusedSectionVars false
open Go.RowKit

theorem s_text (g m : Nat) (A : Option Addr) (n c : Nat) (l : List ByteArray) (w : World) (h : SrcW g m w) (hm : m ≤ 2000000) (hr : Rd strE w A n l) (hn : n ≤ 65536) (h1 : 1 ≤ n) (hA : ∀ b o p, A = some ⟨b, o, p⟩ → b ≠ g) :
    Calls Tryz.prog 48 #[.pointer (some ⟨g, 0, none⟩), .slice A n c] w fun e w' => ∃ s ∈ l, e = .returned (.string s) ∧ SrcW g (m + 2) w' ∧ Touch (fun k => k = g) w w' := by
  go_enter Tryz.func48, Tryz.ntmps48
  go_wp2_with fail
  refine (s_pick g m n w h (by omega) h1 hn).mono ?_
  rintro e w1 ⟨r, hrn, rfl, hS, hT⟩
  obtain ⟨b, off, x, rfl, hx, hc⟩ := (hr.touch hT fun _ b o p e hk => hA b o p e hk).get hrn
  have hc0 := hc 0 (.string x) rfl
  simp only [strE, Nat.mul_one, Nat.add_zero] at hc0
  clear hc
  go_wp2
  go_ret
  exact ⟨x, List.mem_of_getElem? hx, rfl, hS, hT⟩
end Go.Proofs.YtbgmhlbcohdobaaGreatDoor
