/- A number's decimal text: the reference's, laid from its low end and turned round. -/
import Derived.Test.YtbdjhecbingcjaaGreatDoorRows
import Derived.Test.YtbdjhecbingcjaaGreatDoorTwo
import Derived.Test.YtbdjhecbingcjaaGreatDoorDecLaw
import Derived.Laws.IdiomStrings
namespace Go.Proofs.YtbdjhecbingcjaaGreatDoor
set_option linter.unusedVariables false
set_option linter.unusedSimpArgs false
set_option linter.unusedSectionVars false
open Go.RowKit

def byteE : Enc UInt8 := ⟨1, fun b => [.int .u8 b.toNat], fun _ => rfl, by decide, fun _ u h => by simp at h; subst h; rfl⟩
theorem byte_back {w : World} {A : Option Addr} {n c : Nat} {l : List UInt8} (hr : Rd byteE w A n l) (hn : 0 < n) : (convert 22 9 (.slice A n c)).run Tryz.prog w = .ok (.string (ofL l)) w := by
  obtain ⟨b, off, rfl, hc⟩ := hr.2 hn
  have hl := hr.1
  subst hl
  refine run_convert_bytes_back w 22 9 5 _ c l Tryz.underlying22 Tryz.underlying5 Tryz.underlying9 fun j hj => ?_
  have h := hc j l[j] (List.getElem?_eq_getElem hj) 0 _ rfl
  rw [addr_add]
  simpa [byteE] using h
theorem Tryz.info_u8 : (Tryz.prog.info? 5).map (fun i => (i.zero, i.size, i.bytes)) = some (some (.int .u8 0), 1, 1) := by kernel_rfl

theorem nDigits_le20 (n : Nat) (h : n ≤ 9223372036854775807) : Lib.nDigits n ≤ 19 := by
  have b : ∀ k u, u < 10 ^ (k + 1) → Lib.nDigits u ≤ k + 1 := by
    intro k
    induction k with
    | zero => intro u hu; rw [Lib.nDigits_small (by omega)]; omega
    | succ k ih =>
      intro u hu
      by_cases h : u < 10
      · rw [Lib.nDigits_small h]; omega
      · rw [Lib.nDigits_big h]
        have := ih (u / 10) (by rw [Nat.div_lt_iff_lt_mul (by omega)]; rw [Nat.pow_succ] at hu; exact hu)
        omega
  exact b 18 n (Nat.lt_of_le_of_lt h (by decide))
end Go.Proofs.YtbdjhecbingcjaaGreatDoor
