/- Numbers for coats: quotients, distances. Nothing here speaks of coats. -/
import Derived.Test.YtbdjhecbingcjaaGreatDoorRows
import Derived.Test.YtbdjhecbingcjaaGreatDoorVarnLaw
import Derived.Test.YtbdjhecbingcjaaGreatDoorBasic
import Derived.Test.YtbdjhecbingcjaaGreatDoorTwo
import Derived.Deep.QuietTactic
namespace Go.Proofs.YtbdjhecbingcjaaGreatDoor
set_option linter.unusedVariables false
set_option linter.unusedSimpArgs false
set_option linter.unusedSectionVars false
open Go.RowKit
set_option maxRecDepth 100000

theorem vmax_eq (a b : Int) : (if b > a then b else a) = max a b := by
  rw [Int.max_def]
  split <;> split <;> omega
theorem vmin_eq (a b : Int) : (if b < a then b else a) = min a b := by
  rw [Int.min_def]
  split <;> split <;> omega
theorem run_max2 {P : Program} (ts : Array TypeId) (t : TypeId) (a b c : Int) (h : max a b = c) (w : World) : (Builtin.max_ ts t #[.int .i64 a, .int .i64 b]).run P w = .ok (.int .i64 c) w := by
  subst h
  simp [Builtin.max_, Builtin.max2, vmax_eq]
theorem run_min2 {P : Program} (ts : Array TypeId) (t : TypeId) (a b c : Int) (h : min a b = c) (w : World) : (Builtin.min_ ts t #[.int .i64 a, .int .i64 b]).run P w = .ok (.int .i64 c) w := by
  subst h
  simp [Builtin.min_, Builtin.min2, vmin_eq]

set_option maxHeartbeats 1000000 in
theorem i_divRound (a b : Int) (w : World) (h0 : 0 ≤ a) (h1 : a ≤ 1000000000) (h2 : 1 ≤ b) (h3 : b ≤ 1000000) :
    Calls Tryz.prog 32 #[.int .i64 a, .int .i64 b] w fun e w' => e = .returned (.int .i64 (dR a b)) ∧ w = w' := by
  have q1 : a.tdiv b = a / b := Int.tdiv_eq_ediv_of_nonneg h0
  have q2 : a.tmod b = a % b := Int.tmod_eq_emod_of_nonneg h0
  have q3 : 0 ≤ a % b := Int.emod_nonneg a (by omega)
  have q4 : a % b < b := Int.emod_lt_of_pos a (by omega)
  have q5 : 0 ≤ a / b := Int.ediv_nonneg h0 (by omega)
  have q6 : a / b ≤ a := Int.ediv_le_self b h0
  have E : Hid (dR a b = if b - a % b ≤ a % b then a / b + 1 else a / b) := Lib.hid rfl
  have m1 := fun W => run_max2 (P := Tryz.prog) #[2, 2] 2 a (-a) a (by omega) W
  have m2 := fun W => run_max2 (P := Tryz.prog) #[2, 2] 2 b (-b) b (by omega) W
  have n1 : decide (a < 0) = false := decide_eq_false (by omega)
  have n2 : decide (b < 0) = false := decide_eq_false (by omega)
  obtain ⟨q, hq⟩ : ∃ q, a / b = q := ⟨_, rfl⟩
  obtain ⟨r, hr⟩ : ∃ r, a % b = r := ⟨_, rfl⟩
  rw [hq] at q1 q5 q6 E
  rw [hr] at q2 q3 q4 E
  clear hq hr
  by_cases hc : b - r ≤ r
  · rw [if_pos hc] at E
    go_enter Tryz.func32, Tryz.ntmps32
    go_wp2
    go_ret
    exact ⟨ret_int E.out.symm, rfl⟩
  · rw [if_neg hc] at E
    go_enter Tryz.func32, Tryz.ntmps32
    go_wp2
    go_ret
    exact ⟨ret_int E.out.symm, rfl⟩
theorem i_distance (a b : Int) (w : World) (h1 : -1000000 ≤ a ∧ a ≤ 1000000) (h2 : -1000000 ≤ b ∧ b ≤ 1000000) :
    Calls Tryz.prog 46 #[.int .i64 a, .int .i64 b] w fun e w' => e = .returned (.int .i64 (absD a b)) ∧ w = w' := by
  have m1 := fun W => run_max2 (P := Tryz.prog) #[2, 2] 2 (a - b) (b - a) (absD a b) rfl W
  go_enter Tryz.func46, Tryz.ntmps46
  go_wp2
  go_ret
  exact ⟨rfl, rfl⟩
theorem l_r8Abs (a c : Int) (w : World) (h1 : -1000000000 ≤ a ∧ a ≤ 1000000000) (hc : max a (-a) = c) :
    Calls Tryz.prog 12 #[.int .i64 a] w fun e w' => e = .returned (.int .i64 c) ∧ w = w' := by
  have m1 := fun W => run_max2 (P := Tryz.prog) #[2, 2] 2 a (-a) c hc W
  go_enter Tryz.func12, Tryz.ntmps12
  go_wp2
  go_ret
  exact ⟨rfl, rfl⟩
set_option maxHeartbeats 1000000 in
theorem l_r8Same_yes (A A' : Option Addr) (n c c' : Nat) (ss : List Int) (w : World) (hr : Rd intE w A n ss) (hr' : Rd intE w A' n ss) (hn : n ≤ 1048576) :
    Calls Tryz.prog 13 #[.slice A n c, .slice A' n c'] w (RetB true w) := by
  go_enter Tryz.func13, Tryz.ntmps13
  go_wp2_with fail
  go_loopw [5] (fun i wr => ∃ k : Nat, k ≤ n ∧ i = .int .i64 k ∧ Below w.heap.size w wr) (fun i _ => n - (intOf i).toNat)
  case atStart => exact ⟨0, Nat.zero_le _, rfl, Below.refl _ _⟩
  case round =>
    obtain ⟨k, hk, rfl, hb⟩ := hrel
    by_cases hkn : k < n
    · obtain ⟨b, off, s, rfl, hks, hc⟩ := hr.get hkn
      obtain ⟨b', off', s', rfl, hks', hc'⟩ := hr'.get hkn
      obtain rfl : s = s' := Option.some.inj (hks.symm.trans hks')
      have hc0 := range_below (B := 0) hc hb 0 (.int .i64 s) rfl
      have hc0' := range_below (B := 0) hc' hb 0 (.int .i64 s) rfl
      simp only [intE, Nat.mul_one, Nat.add_zero] at hc0 hc0'
      clear hc hc' hks hks'
      go_wp2_with fail
      go_quiet (fail)
      go_wp2
      first | (refine ⟨⟨k + 1, by omega, by go_num, below_drewN hb _⟩, ?_⟩; (simp [intOf]; omega)) | (go_roundw; (case rel => first | exact ⟨k + 1, by omega, by go_num, below_drewN hb _⟩ | ((try refine ⟨trivial, ?_⟩); (repeat apply Exists.intro); exact ⟨⟨k + 1, by omega, by go_num, below_drewN hb _⟩, rfl⟩)); (case measure => (simp [intOf]; omega)))
    · go_wp2
      go_ret
      exact ⟨rfl, hb⟩
theorem s_l01Div (a : Int) (w : World) (h0 : 0 ≤ a) (h1 : a ≤ 1000000000) :
    Calls Tryz.prog 55 #[.int .i64 a, .int .i64 1000] w fun e w' => e = .returned (.int .i64 (dR a 1000)) ∧ w = w' := by
  have q1 : (2 * a + 1000).tdiv 2000 = (2 * a + 1000) / 2000 := Int.tdiv_eq_ediv_of_nonneg (by omega)
  have E := Lib.hid (dR_1000 a)
  have q5 : 0 ≤ (2 * a + 1000) / 2000 := by omega
  have q6 : (2 * a + 1000) / 2000 ≤ 10000000 := by omega
  obtain ⟨q, hq⟩ : ∃ q, (2 * a + 1000) / 2000 = q := ⟨_, rfl⟩
  rw [hq] at q1 q5 q6 E
  clear hq
  go_enter Tryz.func55, Tryz.ntmps55
  go_wp2
  go_ret
  exact ⟨ret_int E.out.symm, rfl⟩
theorem s_l00Max (a b : Int) (w : World) : Calls Tryz.prog 65 #[.int .i64 a, .int .i64 b] w fun e w' => e = .returned (.int .i64 (max a b)) ∧ w = w' := by
  by_cases h : b < a
  · have E : Hid (max a b = a) := Lib.hid (by omega)
    go_enter Tryz.func65, Tryz.ntmps65
    go_wp2
    go_ret
    exact ⟨ret_int E.out.symm, rfl⟩
  · have E : Hid (max a b = b) := Lib.hid (by omega)
    go_enter Tryz.func65, Tryz.ntmps65
    go_wp2
    go_ret
    exact ⟨ret_int E.out.symm, rfl⟩
theorem s_l03Abs (a b : Int) (w : World) (h1 : -1000000 ≤ a ∧ a ≤ 1000000) (h2 : -1000000 ≤ b ∧ b ≤ 1000000) :
    Calls Tryz.prog 53 #[.int .i64 a, .int .i64 b] w fun e w' => e = .returned (.int .i64 (absD a b)) ∧ w = w' := by
  go_enter Tryz.func53, Tryz.ntmps53
  go_wp2_with fail
  refine (s_l00Max _ _ _).mono ?_
  rintro e w' ⟨rfl, rfl⟩
  go_wp2
  go_ret
  exact ⟨rfl, rfl⟩
end Go.Proofs.YtbdjhecbingcjaaGreatDoor
