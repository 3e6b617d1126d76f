/- A number's decimal text, laid from its low end and turned round; a number in five places. Nothing here speaks of the program. -/
import Derived.Test.YtbdjhecbingcjaaGreatDoorPieces
import Derived.Lib.ItoaNum
import Derived.Lib.Repeat
namespace Go.Proofs.YtbdjhecbingcjaaGreatDoor
set_option linter.unusedVariables false
set_option linter.unusedSimpArgs false
set_option linter.unusedSectionVars false
open Go.Lib

/-- the digits of a number, none for 0 -/
def decP (u : Nat) : List UInt8 := if u = 0 then [] else decDigits u
theorem decP_step {m : Nat} (h : 0 < m) : decP m = decP (m / 10) ++ [UInt8.ofNat (48 + m % 10)] := by
  unfold decP
  rw [if_neg (by omega)]
  by_cases h10 : m < 10
  · rw [if_pos (by omega), decDigits, dif_pos h10, Nat.mod_eq_of_lt h10]; rfl
  · rw [if_neg (by omega)]
    conv => lhs; rw [decDigits, dif_neg h10]
/-- m is still to be laid; r are the digits that lie, the low end first -/
structure DecSt (n m : Nat) (r : List UInt8) : Prop where
  eq : decP n = decP m ++ r.reverse
  small : m * 10 ^ r.length ≤ n
theorem DecSt.start (n : Nat) : DecSt n n [] := ⟨by simp, by simp⟩
theorem DecSt.step {n m : Nat} {r : List UInt8} (h : DecSt n m r) (hm : 0 < m) : DecSt n (m / 10) (r ++ [UInt8.ofNat (48 + m % 10)]) where
  eq := by rw [h.eq, decP_step hm]; simp
  small := by
    refine Nat.le_trans ?_ h.small
    rw [List.length_append, List.length_singleton, Nat.pow_succ, Nat.mul_comm (10 ^ r.length) 10, ← Nat.mul_assoc]
    exact Nat.mul_le_mul_right _ (by omega)
theorem DecSt.short {n m : Nat} {r : List UInt8} (h : DecSt n m r) (hm : 0 < m) (hn : n ≤ 9223372036854775807) : r.length ≤ 18 := by
  have h1 := h.small
  rcases Nat.lt_or_ge 18 r.length with h2 | h2
  · have h3 : 10 ^ 19 ≤ 10 ^ r.length := Nat.pow_le_pow_right (by omega) h2
    have h4 : 1 * 10 ^ r.length ≤ m * 10 ^ r.length := Nat.mul_le_mul_right _ hm
    have h5 : (10 : Nat) ^ 19 = 10000000000000000000 := by decide
    omega
  · exact h2
theorem DecSt.over {n : Nat} {r : List UInt8} (h : DecSt n 0 r) (hn : 0 < n) : itoa (n : Int) = r.reverse := by
  have h1 := h.eq
  unfold decP at h1
  rw [if_neg (by omega), if_pos rfl, List.nil_append] at h1
  unfold itoa
  rw [if_neg (by omega), Int.toNat_natCast]
  exact h1
theorem itoa_zero : itoa 0 = [48] := by
  unfold itoa
  rw [if_neg (by omega), Int.toNat_zero, decDigits, dif_pos (by omega)]
  rfl
/-- at least five places -/
def fiveL (n : Nat) : List UInt8 := List.replicate (5 - (itoa (n : Int)).length) 48 ++ itoa (n : Int)
theorem repeat_rep (c : UInt8) : ∀ k, repeatL [c] k = List.replicate k c
  | 0 => rfl
  | k + 1 => by rw [repeatL, repeat_rep c k, List.replicate_succ]; rfl
theorem nDigits_le {n : Nat} (h : n < 100000) : (itoa (n : Int)).length ≤ 5 := by
  unfold itoa
  rw [if_neg (by omega), Int.toNat_natCast, decDigits_length]
  have h4 : n / 10 / 10 / 10 / 10 < 10 := by omega
  have := nDigits_small h4
  have b : ∀ u, nDigits u ≤ nDigits (u / 10) + 1 := fun u => by
    by_cases h : u < 10
    · rw [nDigits_small h]; omega
    · rw [nDigits_big h]; exact Nat.le_refl _
  have b1 := b n
  have b2 := b (n / 10)
  have b3 := b (n / 10 / 10)
  have b4 := b (n / 10 / 10 / 10)
  omega
theorem itoa_pos (n : Nat) : 1 ≤ (itoa (n : Int)).length := by
  unfold itoa
  rw [if_neg (by omega), Int.toNat_natCast, decDigits_length]
  exact nDigits_pos _
theorem fiveL_length {n : Nat} (h : n < 100000) : (fiveL n).length = 5 := by
  have := nDigits_le h
  unfold fiveL
  rw [List.length_append, List.length_replicate]
  omega
end Go.Proofs.YtbdjhecbingcjaaGreatDoor
