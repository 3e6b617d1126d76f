/- The reference's reading of a number. -/
import Derived.Test.YtbdjhecbingcjaaGreatDoorRows
import Derived.Test.YtbdjhecbingcjaaGreatDoorSReads
namespace Go.Proofs.YtbdjhecbingcjaaGreatDoor
set_option linter.unusedVariables false
set_option linter.unusedSimpArgs false
set_option linter.unusedSectionVars false
open Go.RowKit

theorem ret_num {a b : Int} {c d : Bool} (h : a = b) (h' : c = d) : Ending.returned (.tuple #[.int .i64 b, .bool d]) = .returned (.tuple #[.int .i64 a, .bool c]) := by rw [h, h']
def numV (s : ByteArray) : Int := (numL s.data.toList).getD 0
def numOk (s : ByteArray) : Bool := (numL s.data.toList).isSome
theorem dig_range {c : UInt8} (h : digB c = true) : 48 ≤ c.toNat ∧ c.toNat ≤ 57 := by
  unfold digB inB at h
  simp only [Bool.and_eq_true, decide_eq_true_eq] at h
  omega
theorem dec_bad {ds : List UInt8} {k : Nat} {c : UInt8} (hx : ds[k]? = some c) (hd : digB c = false) : Lib.decNat ds = none := by
  cases h : Lib.decNat ds with
  | none => rfl
  | some m =>
    obtain ⟨d, hd'⟩ := Lib.digit_of_decFrom ds 0 m (decNat_ne h).2 k c hx
    unfold Lib.digitVal at hd'
    split at hd'
    · rename_i h2
      have : digB c = true := by unfold digB inB; simp only [Bool.and_eq_true, decide_eq_true_eq]; omega
      rw [this] at hd; cases hd
    · cases hd'
theorem dec_lt17 {ds : List UInt8} {m : Nat} (h : Lib.decFrom 0 ds = some m) (hl : ds.length ≤ 17) : m < 100000000000000000 := by
  have h1 := Lib.decFrom_lt ds 0 m h
  have hp : 10 ^ ds.length ≤ 10 ^ 17 := Nat.pow_le_pow_right (by decide) hl
  have e17 : (10 : Nat) ^ 17 = 100000000000000000 := by decide
  omega
theorem dec_lt18 {ds : List UInt8} {m : Nat} (h : Lib.decFrom 0 ds = some m) (hl : ds.length ≤ 18) : m < 1000000000000000000 := by
  have h1 := Lib.decFrom_lt ds 0 m h
  have hp : 10 ^ ds.length ≤ 10 ^ 18 := Nat.pow_le_pow_right (by decide) hl
  have e18 : (10 : Nat) ^ 18 = 1000000000000000000 := by decide
  omega
theorem dec_all {ds : List UInt8} {k m : Nat} (h : Lib.decFrom 0 (ds.take k) = some m) (hk : ds.length ≤ k) (hne : 0 < ds.length) : Lib.decNat ds = some m := by
  rw [List.take_of_length_le hk] at h
  unfold Lib.decNat
  rw [if_neg (by cases ds <;> simp at hne ⊢)]
  exact h

end Go.Proofs.YtbdjhecbingcjaaGreatDoor
