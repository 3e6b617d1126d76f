/- The sum of a text, in plain numbers: what both sides reckon, bit for bit. -/
import Derived.Lib.Zigzag
import Derived.Laws.BitsAllLaws
namespace Go.Proofs.YtbdjhecbingcjaaGreatDoor
set_option linter.unusedVariables false
set_option linter.unusedSimpArgs false
set_option linter.unusedSectionVars false

theorem i64_xor_nat (a b : Nat) (ha : a < 9223372036854775808) (hb : b < 9223372036854775808) : bits .xor .i64 (a : Int) (b : Int) = ((a ^^^ b : Nat) : Int) := by
  have hx : a ^^^ b < 2 ^ 63 := Nat.xor_lt_two_pow (by omega) (by omega)
  have h1 : (BitVec.ofInt 64 (a : Int)).toNat = a := by
    rw [BitVec.ofInt_natCast, BitVec.toNat_ofNat]; exact Nat.mod_eq_of_lt (by omega)
  have h2 : (BitVec.ofInt 64 (b : Int)).toNat = b := by
    rw [BitVec.ofInt_natCast, BitVec.toNat_ofNat]; exact Nat.mod_eq_of_lt (by omega)
  show IntKind.i64.wrap ((BitVec.ofInt 64 (a : Int) ^^^ BitVec.ofInt 64 (b : Int)).toNat : Int) = _
  rw [BitVec.toNat_xor, h1, h2, IntKind.wrap_i64]
  omega
theorem i64_and_nat (a b : Nat) (ha : a < 9223372036854775808) (hb : b < 9223372036854775808) : bits .and .i64 (a : Int) (b : Int) = ((a &&& b : Nat) : Int) := by
  have hx : a &&& b < 2 ^ 63 := Nat.and_lt_two_pow _ (by omega)
  have h1 : (BitVec.ofInt 64 (a : Int)).toNat = a := by
    rw [BitVec.ofInt_natCast, BitVec.toNat_ofNat]; exact Nat.mod_eq_of_lt (by omega)
  have h2 : (BitVec.ofInt 64 (b : Int)).toNat = b := by
    rw [BitVec.ofInt_natCast, BitVec.toNat_ofNat]; exact Nat.mod_eq_of_lt (by omega)
  show IntKind.i64.wrap ((BitVec.ofInt 64 (a : Int) &&& BitVec.ofInt 64 (b : Int)).toNat : Int) = _
  rw [BitVec.toNat_and, h1, h2, IntKind.wrap_i64]
  omega
def crcBit (n : Nat) : Nat := if 65535 < 2 * n then (2 * n &&& 65535) ^^^ 4129 else 2 * n
def crcBits : Nat → Nat → Nat
  | 0, n => n
  | k + 1, n => crcBit (crcBits k n)
def crcByte (n : Nat) (b : UInt8) : Nat := crcBits 8 (n ^^^ (b.toNat * 256))
def crcL (l : List UInt8) (n : Nat) : Nat := l.foldl crcByte n
theorem crcBit_lt {n : Nat} (h : n < 65536) : crcBit n < 65536 := by
  unfold crcBit
  split
  · refine Nat.xor_lt_two_pow (n := 16) ?_ (by decide)
    exact Nat.lt_of_le_of_lt (Nat.and_le_right (n := 2 * n) (m := 65535)) (by decide)
  · omega
theorem crcBits_lt {n : Nat} (h : n < 65536) : ∀ k, crcBits k n < 65536
  | 0 => h
  | k + 1 => crcBit_lt (crcBits_lt h k)
theorem crcIn_lt {n : Nat} (h : n < 65536) (b : UInt8) : n ^^^ (b.toNat * 256) < 65536 := Nat.xor_lt_two_pow (n := 16) h (by have := b.toNat_lt; omega)
theorem crcByte_lt {n : Nat} (h : n < 65536) (b : UInt8) : crcByte n b < 65536 := crcBits_lt (crcIn_lt h b) 8
theorem crcL_nil (n : Nat) : crcL [] n = n := by unfold crcL; rw [List.foldl_nil]
theorem crcL_cons (b : UInt8) (r : List UInt8) (n : Nat) : crcL (b :: r) n = crcL r (crcByte n b) := by unfold crcL; rw [List.foldl_cons]
theorem crcL_lt (l : List UInt8) : ∀ {n : Nat}, n < 65536 → crcL l n < 65536 := by
  induction l with
  | nil => intro n h; rw [crcL_nil]; exact h
  | cons b r ih => intro n h; rw [crcL_cons]; exact ih (crcByte_lt h b)
theorem crcL_snoc (l : List UInt8) (b : UInt8) (n : Nat) : crcL (l ++ [b]) n = crcByte (crcL l n) b := by
  unfold crcL
  rw [List.foldl_append, List.foldl_cons, List.foldl_nil]

end Go.Proofs.YtbdjhecbingcjaaGreatDoor
