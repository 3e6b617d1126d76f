/- Laws over two texts of bytes: how one opens; the laws' choices off them. -/
import Derived.Test.YtbdjhecbingcjaaGreatDoorRows
import Derived.Test.YtbdjhecbingcjaaGreatDoorLaw
import Derived.Test.YtbdjhecbingcjaaGreatDoorDec
import Derived.Test.YtbdjhecbingcjaaGreatDoorBasic
namespace Go.Proofs.YtbdjhecbingcjaaGreatDoor
set_option linter.unusedVariables false
set_option linter.unusedSimpArgs false
set_option linter.unusedSectionVars false
open Go.RowKit Go.WideShapes Go.ChangeShapes Go.ChangeAt

section
variable {H : Type} {enc : TypeId × Value → H} {P : Program} {w : World} {base : Nat} {spare : Nat → Bool} {held : Bool}
theorem el_byte {e : TypeId} (he : P.underlying e = some (.int .u8)) (n : Nat) (cs : List Value) (y : DataW H × List MemPlace) (h : DataW.trod enc P w base spare held n e cs = some y) : ∃ x, cs = byteE.cells x ∧ (0 : Int) ≤ (x.toNat : Int) := by
  obtain ⟨s, hs, _, hz⟩ := DataW.trod_int he h
  have hz' : 0 ≤ s ∧ s ≤ 255 := by simpa [Lit.wf, IntKind.min, IntKind.max, IntKind.signed, IntKind.bits] using hz
  refine ⟨UInt8.ofNat s.toNat, ?_, by omega⟩
  rw [hs]
  show [Value.int .u8 s] = [.int .u8 ((UInt8.ofNat s.toNat).toNat : Int)]
  have : (UInt8.ofNat s.toNat).toNat = s.toNat := by simp [Nat.mod_eq_of_lt (show s.toNat < 256 by omega)]
  rw [this, Int.toNat_of_nonneg hz'.1]
end
theorem l_r8Long (A A' : Option Addr) (n c n' c' : Nat) (w : World) (hn : n ≤ maxLen) (hn' : n' ≤ maxLen) :
    Calls Tryz.prog 4 #[.slice A n c, .slice A' n' c'] w fun e w' => e = .returned (.bool (decide (1048576 < n) || decide (1048576 < n'))) ∧ w = w' := by
  unfold maxLen at hn hn'
  by_cases h : 1048576 < n
  · have hd : decide ((1048576 : Int) < (n : Int)) = true := decide_eq_true (by omega)
    go_enter Tryz.func4, Tryz.ntmps4
    go_wp2
    go_ret
    exact ⟨ret_bool (by rw [decide_eq_true h]; rfl), rfl⟩
  · have hd : decide ((1048576 : Int) < (n : Int)) = false := decide_eq_false (by omega)
    have hi : ¬ (1048576 : Int) < (n : Int) := by omega
    by_cases h' : 1048576 < n'
    · have hi' : (1048576 : Int) < (n' : Int) := by omega
      go_enter Tryz.func4, Tryz.ntmps4
      go_wp2
      go_ret
      exact ⟨ret_bool (by first | rfl | (rw [decide_eq_true h', Bool.or_true]) | (simp; omega)), rfl⟩
    · have hi' : ¬ (1048576 : Int) < (n' : Int) := by omega
      go_enter Tryz.func4, Tryz.ntmps4
      go_wp2
      go_ret
      exact ⟨ret_bool (by first | rfl | (rw [decide_eq_false h', decide_eq_false h]; rfl) | (simp; omega)), rfl⟩
theorem l_r8At (A : Option Addr) (n c : Nat) (l : List UInt8) (k m : Nat) (w : World) (hr : Rd byteE w A n l) (hn : n ≤ maxLen) (hk : k ≤ 1099511627776) (hm : m ≤ 1099511627776) (h1 : 1 ≤ m) :
    Calls Tryz.prog 7 #[.slice A n c, .int .i64 k, .int .i64 m] w fun e w' => ∃ r : Nat, r < m ∧ r ≤ 255 ∧ e = .returned (.int .i64 r) ∧ w = w' := by
  unfold maxLen at hn
  by_cases hm1 : m = 1
  · subst hm1
    go_enter Tryz.func7, Tryz.ntmps7
    go_wp2
    go_ret
    exact ⟨0, by omega, by omega, rfl, rfl⟩
  have hm1' : ¬ (m : Int) ≤ 1 := by omega
  by_cases hkn : k < n
  · obtain ⟨b, off, x, rfl, hx, hc⟩ := hr.get hkn
    have hx0 := hc 0 (.int .u8 x.toNat) rfl
    simp only [byteE, Nat.mul_one, Nat.add_zero] at hx0
    have hxb := x.toNat_lt
    have hk' : ¬ (n : Int) ≤ (k : Int) := by omega
    clear hc hx
    go_enter Tryz.func7, Tryz.ntmps7
    go_wp2
    go_ret
    exact ⟨x.toNat % m, Nat.mod_lt _ (by omega), Nat.le_trans (Nat.mod_le _ _) (by omega), ret_int (by push_cast; rfl), rfl⟩
  · have hk' : (n : Int) ≤ (k : Int) := by omega
    go_enter Tryz.func7, Tryz.ntmps7
    go_wp2
    go_ret
    exact ⟨0, by omega, by omega, rfl, rfl⟩
end Go.Proofs.YtbdjhecbingcjaaGreatDoor
