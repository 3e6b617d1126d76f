/- The names of problems. -/
import Derived.Test.YtnjjipcjmmdniaaRows
import Derived.Test.YtnjjipcjmmdniaaBasic
import Derived.Test.YtnjjipcjmmdniaaConvS
namespace Go.Proofs.Ytnjjipcjmmdniaa
set_option linter.unusedVariables false
set_option linter.unusedSimpArgs false
set_option linter.unusedSectionVars false
open Go.RowKit

def problems : List ByteArray := [⟨#[]⟩, ⟨#[111, 117, 116, 108, 105, 110, 101]⟩, ⟨#[115, 116, 114, 105, 110, 103]⟩, ⟨#[99, 108, 97, 109, 112]⟩, ⟨#[114, 101, 110, 116, 97, 108]⟩, ⟨#[99, 97, 115, 104]⟩]
def problemName (n : Int) : ByteArray := pickD n problems
theorem problemName_none (n : Int) (h : inB n 1 5 = false) : problemName n = ⟨#[]⟩ := by
  unfold problemName pickD
  have := inB_not h
  by_cases h0 : 0 ≤ n
  · rw [if_pos h0]
    obtain ⟨k, rfl⟩ := Int.eq_ofNat_of_zero_le h0
    match k with
    | 0 => rfl
    | k + 6 => rfl
    | 1 => omega
    | 2 => omega
    | 3 => omega
    | 4 => omega
    | 5 => omega
  · rw [if_neg h0]

theorem s_l31Kind (n : Int) (w : World) : Calls Try.prog 31 #[.int .i64 n] w fun e w' => e = .returned (.bool (inB n 1 5)) ∧ w = w' := by
  go_enter Try.func31, Try.ntmps31
  go_wp2_with fail
  refine (s_l00In _ _ _ _).mono ?_
  rintro e w' ⟨rfl, rfl⟩
  go_wp2
  go_ret
  exact ⟨rfl, rfl⟩

/-- the list of names, laid anew -/
def Names31 (w : World) (e : Ending) (w' : World) : Prop := ∃ b off, e = .returned (.slice (some ⟨b, off, none⟩) 6 6) ∧ Rd strE w' (some ⟨b, off, none⟩) 6 problems ∧ Below w.heap.size w w'
theorem s_l31Names (w : World) : Calls Try.prog 32 #[] w (Names31 w) := by
  go_enter Try.func32, Try.ntmps32
  go_wp2
  go_ret
  exact ⟨_, _, rfl, Rd.lit1 strE rfl rfl rfl, by (repeat (first | exact Below.refl _ _ | assumption | refine Below.drew ?_ | refine Below.alloc ?_ (by first | omega | (simp; done) | (simp; omega) | exact Below.size (by assumption)) _ | refine Below.setCell ?_ (by first | omega | (simp; done) | (simp; omega)) _))⟩

set_option maxHeartbeats 400000 in
theorem s_ProblemName (n : Int) (w : World) : Calls Try.prog 11 #[.int .i64 n] w fun e w' => e = .returned (.string (problemName n)) ∧ Below w.heap.size w w' := by
  go_enter Try.func11, Try.ntmps11
  go_wp2_with fail
  refine (s_l31Kind _ _).mono ?_
  rintro e w' ⟨rfl, rfl⟩
  rcases h : inB n 1 5 with _ | _
  · have E := Lib.hid (problemName_none n h); clear h
    go_wp2
    go_ret
    exact ⟨by rw [E.out]; rfl, by (repeat (first | exact Below.refl _ _ | assumption | refine Below.drew ?_ | refine Below.alloc ?_ (by first | omega | (simp; done) | (simp; omega) | exact Below.size (by assumption)) _ | refine Below.setCell ?_ (by first | omega | (simp; done) | (simp; omega)) _))⟩
  · obtain ⟨h1, h2⟩ := inB_spec h
    clear h
    obtain ⟨k, rfl⟩ := Int.eq_ofNat_of_zero_le (show 0 ≤ n by omega)
    go_wp2_with fail
    refine (s_l31Names _).mono ?_
    rintro e w1 ⟨b, off, rfl, hr, hb⟩
    have hk6 : k < 6 := by omega
    obtain ⟨b', off', s, he, hks, hc⟩ := hr.get hk6
    simp only [Option.some.injEq, Addr.mk.injEq, and_true] at he
    obtain ⟨rfl, rfl⟩ := he
    have hc0 := hc 0 (.string s) rfl
    simp only [strE, Nat.mul_one, Nat.add_zero] at hc0
    have E : Hid (problemName k = s) := Lib.hid (by unfold problemName pickD; rw [if_pos (by omega)]; simp [List.getD_eq_getElem?_getD, hks])
    clear hks hc hr
    go_wp2
    go_ret
    exact ⟨by rw [E.out]; rfl, hb⟩

theorem i_ProblemName (n : Int) (w : World) : Calls Try.prog 12 #[.int .i64 n] w fun e w' => e = .returned (.string (problemName n)) ∧ Below w.heap.size w w' := by
  go_enter Try.func12, Try.ntmps12
  go_wp2_with fail
  refine (i_pick n _ 6 6 problems _ (Rd.lit1 strE rfl rfl rfl) (by omega)).mono ?_
  rintro e w' ⟨rfl, rfl⟩
  go_wp2
  go_ret
  exact ⟨rfl, by (repeat (first | exact Below.refl _ _ | assumption | refine Below.drew ?_ | refine Below.alloc ?_ (by first | omega | (simp; done) | (simp; omega) | exact Below.size (by assumption)) _ | refine Below.setCell ?_ (by first | omega | (simp; done) | (simp; omega)) _))⟩

theorem w_ProblemName (n : Int) (w : World) (_lo : -9223372036854775808 ≤ n) (_hi : n ≤ 9223372036854775807) : Calls Try.prog 4 #[.int .i64 n] w (RetB true w) := by
  go_enter Try.func4, Try.ntmps4
  go_wp2_with fail
  refine (s_ProblemName n _).mono ?_
  rintro e w1 ⟨rfl, hb⟩
  go_wp2_with fail
  refine (i_ProblemName n _).mono ?_
  rintro e w2 ⟨rfl, hb2⟩
  go_wp2
  go_ret
  exact ⟨rfl, hb.trans (hb2.mono hb.size)⟩

end Go.Proofs.Ytnjjipcjmmdniaa
