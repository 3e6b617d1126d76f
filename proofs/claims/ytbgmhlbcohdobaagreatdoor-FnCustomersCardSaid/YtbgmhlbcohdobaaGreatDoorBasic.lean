/- Contracts of the small functions that most others call. -/
import Derived.Test.YtbgmhlbcohdobaaGreatDoorRows
import Derived.Test.YtbgmhlbcohdobaaGreatDoorMem
namespace Go.Proofs.YtbgmhlbcohdobaaGreatDoor
set_option linter.unusedVariables false
set_option linter.unusedSimpArgs false
set_option linter.unusedSectionVars false
open Go.RowKit

/-- n lies from lo to hi -/
def inB (n lo hi : Int) : Bool := decide (lo ≤ n) && decide (n ≤ hi)
theorem inB_true {n lo hi : Int} (h1 : lo ≤ n) (h2 : n ≤ hi) : inB n lo hi = true := by simp [inB, h1, h2]
theorem inB_lo {n lo hi : Int} (h1 : n < lo) : inB n lo hi = false := by simp [inB]; omega
theorem inB_hi {n lo hi : Int} (h1 : hi < n) : inB n lo hi = false := by simp [inB]; omega
theorem inB_spec {n lo hi : Int} (h : inB n lo hi = true) : lo ≤ n ∧ n ≤ hi := by simpa [inB] using h
theorem inB_not {n lo hi : Int} (h : inB n lo hi = false) : n < lo ∨ hi < n := by simp [inB] at h; omega

theorem i_within (n lo hi : Int) (w : World) :
    Calls Tryz.prog 20 #[.int .i64 n, .int .i64 lo, .int .i64 hi] w fun e w' => e = .returned (.bool (inB n lo hi)) ∧ w = w' := by
  by_cases h1 : lo ≤ n
  · by_cases h2 : n ≤ hi
    · go_enter Tryz.func20, Tryz.ntmps20
      go_wp2
      go_ret
      exact ⟨ret_bool ((inB_true (by omega) (by omega)).symm), rfl⟩
    · go_enter Tryz.func20, Tryz.ntmps20
      go_wp2
      go_ret
      exact ⟨ret_bool ((inB_hi (by omega)).symm), rfl⟩
  · go_enter Tryz.func20, Tryz.ntmps20
    go_wp2
    go_ret
    exact ⟨ret_bool ((inB_lo (by omega)).symm), rfl⟩

theorem i_few (n most : Int) (w : World) (h0 : 0 ≤ n) (h1 : n ≤ 9223372036854775807) :
    Calls Tryz.prog 26 #[.int .i64 n, .int .i64 most] w fun e w' => e = .returned (.bool (decide (n ≤ most))) ∧ w = w' := by
  go_enter Tryz.func26, Tryz.ntmps26
  go_wp2
  go_ret
  exact ⟨rfl, rfl⟩

theorem i_at (n len : Int) (w : World) (h3 : 0 ≤ len) (h4 : len ≤ 9223372036854775807) :
    Calls Tryz.prog 45 #[.int .i64 n, .int .i64 len] w fun e w' => e = .returned (.bool (inB n 0 (len - 1))) ∧ w = w' := by
  by_cases h1 : 0 ≤ n
  · by_cases h2 : n < len
    · go_enter Tryz.func45, Tryz.ntmps45
      go_wp2
      go_ret
      exact ⟨ret_bool ((inB_true (by omega) (by omega)).symm), rfl⟩
    · go_enter Tryz.func45, Tryz.ntmps45
      go_wp2
      go_ret
      exact ⟨ret_bool ((inB_hi (by omega)).symm), rfl⟩
  · go_enter Tryz.func45, Tryz.ntmps45
    go_wp2
    go_ret
    exact ⟨ret_bool ((inB_lo (by omega)).symm), rfl⟩

theorem s_l00In (n lo hi : Int) (w : World) :
    Calls Tryz.prog 83 #[.int .i64 n, .int .i64 lo, .int .i64 hi] w fun e w' => e = .returned (.bool (inB n lo hi)) ∧ w = w' := by
  by_cases h1 : lo ≤ n
  · by_cases h2 : n ≤ hi
    · go_enter Tryz.func83, Tryz.ntmps83
      go_wp2
      go_ret
      exact ⟨ret_bool ((inB_true (by omega) (by omega)).symm), rfl⟩
    · go_enter Tryz.func83, Tryz.ntmps83
      go_wp2
      go_ret
      exact ⟨ret_bool ((inB_hi (by omega)).symm), rfl⟩
  · go_enter Tryz.func83, Tryz.ntmps83
    go_wp2
    go_ret
    exact ⟨ret_bool ((inB_lo (by omega)).symm), rfl⟩

/-- the name with a number, or the empty one -/
def pickD (n : Int) (ss : List ByteArray) : ByteArray := if 0 ≤ n then ss.getD n.toNat ⟨#[]⟩ else ⟨#[]⟩
set_option maxHeartbeats 400000 in
theorem i_pick (n : Int) (A : Option Addr) (m c : Nat) (ss : List ByteArray) (w : World) (hr : Rd strE w A m ss) (hm : m ≤ 1000) :
    Calls Tryz.prog 30 #[.int .i64 n, .slice A m c] w fun e w' => e = .returned (.string (pickD n ss)) ∧ w = w' := by
  have Hl := Lib.hid hr.1
  by_cases h0 : 0 ≤ n
  · by_cases h1 : n < m
    · obtain ⟨k, rfl⟩ := Int.eq_ofNat_of_zero_le h0
      have hk : k < m := by omega
      obtain ⟨b, off, s, rfl, hks, hc⟩ := hr.get hk
      have hc0 := hc 0 (.string s) rfl
      simp only [strE, Nat.mul_one, Nat.add_zero] at hc0
      have e : pickD k ss = s := by unfold pickD; rw [if_pos h0]; simp [List.getD_eq_getElem?_getD, hks]
      have E := Lib.hid e; clear e hks hc
      have hd : inB (k : Int) 0 ((m : Int) - 1) = true := inB_true (by omega) (by omega)
      go_enter Tryz.func30, Tryz.ntmps30
      go_wp2_with fail
      refine (i_at k m _ (by omega) (by omega)).mono ?_
      rintro e w' ⟨rfl, rfl⟩
      rw [hd]
      clear hd
      go_wp2
      go_ret
      exact ⟨by rw [E.out]; rfl, rfl⟩
    · have e : pickD n ss = ⟨#[]⟩ := by unfold pickD; rw [if_pos h0]; simp [List.getD_eq_getElem?_getD, show ss.length ≤ n.toNat from by have := Hl.out; omega]
      have E := Lib.hid e; clear e
      have hd : inB n 0 ((m : Int) - 1) = false := inB_hi (by omega)
      go_enter Tryz.func30, Tryz.ntmps30
      go_wp2_with fail
      refine (i_at n m _ (by omega) (by omega)).mono ?_
      rintro e w' ⟨rfl, rfl⟩
      rw [hd]
      clear hd
      go_wp2
      go_ret
      exact ⟨by rw [E.out]; rfl, rfl⟩
  · have e : pickD n ss = ⟨#[]⟩ := by unfold pickD; rw [if_neg h0]
    have E := Lib.hid e; clear e
    have hd : inB n 0 ((m : Int) - 1) = false := inB_lo (by omega)
    go_enter Tryz.func30, Tryz.ntmps30
    go_wp2_with fail
    refine (i_at n m _ (by omega) (by omega)).mono ?_
    rintro e w' ⟨rfl, rfl⟩
    rw [hd]
    clear hd
    go_wp2
    go_ret
    exact ⟨by rw [E.out]; rfl, rfl⟩

end Go.Proofs.YtbgmhlbcohdobaaGreatDoor
