/- The walk of the law on ValidReport. -/
import Derived.Test.YtnjjipcjmmdniaaRows
import Derived.Test.YtnjjipcjmmdniaaRep
namespace Go.Proofs.Ytnjjipcjmmdniaa
set_option linter.unusedVariables false
set_option linter.unusedSimpArgs false
set_option linter.unusedSectionVars false
open Go.RowKit

set_option maxHeartbeats 1000000 in
theorem w_ValidReport (A : Option Addr) (n c : Nat) (ss : List ByteArray) (w : World) (hr : Rd strE w A n ss) (hn : n ≤ maxLen) (hs : ∀ s ∈ ss, s.size ≤ maxLen) :
    Calls Try.prog 5 #[.slice A n c] w (RetB true w) := by
  have HS := Lib.hid hs; clear hs
  go_enter Try.func5, Try.ntmps5
  go_wp2_with fail
  refine (l_szStringS A n c ss 1048576 _ hr hn HS.out (by omega) (by omega)).mono ?_
  rintro e w' ⟨r, rfl, rfl, hr0, hr1⟩
  by_cases hneg : r < 0
  · clear hr1
    go_wp2
    go_ret
    exact ⟨rfl, by (repeat (first | exact Below.refl _ _ | assumption | refine Below.drew ?_ | refine Below.alloc ?_ (by first | omega | (simp; done) | (simp; omega) | exact Below.size (by assumption)) _ | refine Below.setCell ?_ (by first | omega | (simp; done) | (simp; omega)) _))⟩
  · have h1 := hr1 (by omega)
    have hp := sumS_nonneg ss
    have hn2 : n ≤ 1048576 := by omega
    clear h1 hp hr1
    go_wp2_with fail
    refine (l_toStringS A n c ss _ hr hn2).mono ?_
    rintro e w1 ⟨A1, c1, rfl, hl1, ho1, hb1⟩
    have R1 := Rd.of_own ho1 hl1
    clear hl1
    have R0 := hr.below hb1
    go_wp2_with fail
    refine (s_ValidReport A1 n c1 ss _ R1 hn HS.out).mono ?_
    rintro e w' ⟨rfl, rfl⟩
    go_wp2_with fail
    refine (l_toStringS A n c ss _ R0 hn2).mono ?_
    rintro e w2 ⟨A2, c2, rfl, hl2, ho2, hb2⟩
    have R2 := Rd.of_own ho2 hl2
    clear hl2
    have R0' := R0.below hb2
    go_wp2_with fail
    refine (i_ValidReport A2 n c2 ss _ R2 hn HS.out).mono ?_
    rintro e w' ⟨rfl, rfl⟩
    go_wp2_with fail
    refine (l_toStringS A n c ss _ R0' hn2).mono ?_
    rintro e w3 ⟨A3, c3, rfl, hl3, ho3, hb3⟩
    have R3 := Rd.of_own ho3 hl3
    clear hl3
    go_wp2_with fail
    refine (l_eqStringS A2 A3 n c2 c3 ss _ (R2.below hb3) R3 hn).mono ?_
    rintro e w4 ⟨rfl, hb4⟩
    go_wp2
    go_ret
    exact ⟨rfl, hb1.trans ((hb2.trans ((hb3.trans (hb4.mono hb3.size)).mono hb2.size)).mono hb1.size)⟩

end Go.Proofs.Ytnjjipcjmmdniaa
