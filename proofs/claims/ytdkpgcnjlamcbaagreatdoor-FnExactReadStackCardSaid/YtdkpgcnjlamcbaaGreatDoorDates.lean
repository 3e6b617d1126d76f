/- Days and dates: both sides' walks. -/
import Derived.Test.YtdkpgcnjlamcbaaGreatDoorRows
import Derived.Test.YtdkpgcnjlamcbaaGreatDoorBasic
import Derived.Test.YtdkpgcnjlamcbaaGreatDoorRng
import Derived.Test.YtdkpgcnjlamcbaaGreatDoorDateLaw
import Derived.Test.YtdkpgcnjlamcbaaGreatDoorSNum
import Derived.Test.YtdkpgcnjlamcbaaGreatDoorIReads
import Derived.Deep.RegionHeld3
namespace Go.Proofs.YtdkpgcnjlamcbaaGreatDoor
set_option linter.unusedVariables false
set_option linter.unusedSimpArgs false
set_option linter.unusedSectionVars false
open Go.RowKit

theorem tmod4 (y : Nat) : Int.tmod (y : Int) 4 = ((y % 4 : Nat) : Int) := (Int.tmod_eq_emod_of_nonneg (by omega)).trans (by omega)
theorem len_leap {y : Nat} (h : y % 4 = 0) : lenB (leapB y) 2 = 29 := by unfold leapB; rw [decide_eq_true h]; rfl
theorem len_common {y : Nat} (h : ¬ y % 4 = 0) : lenB (leapB y) 2 = 28 := by unfold leapB; rw [decide_eq_false h]; rfl
set_option maxRecDepth 100000 in
set_option maxHeartbeats 1000000 in
theorem i_monthDays (y m : Nat) (w : World) (h0 : 1 ≤ m) (h1 : m ≤ 12) :
    Calls Tryz.prog 37 #[.int .i64 y, .int .i64 m] w fun e w' => e = .returned (.int .i64 (lenB (leapB y) m : Nat)) ∧ w = w' := by
  have ht := tmod4 y
  by_cases h2 : m = 2
  · subst h2
    by_cases h4 : y % 4 = 0
    · have E := Lib.hid (len_leap h4)
      rw [h4] at ht
      change Calls _ _ #[.int .i64 (y : Int), .int .i64 (2 : Int)] _ _
      go_enter Tryz.func37, Tryz.ntmps37
      go_wp2
      go_ret
      exact ⟨by rw [E.out]; rfl, rfl⟩
    · have E := Lib.hid (len_common h4)
      have hq : (Int.tmod (y : Int) 4 == 0) = false := by rw [ht, beq_eq_false_iff_ne]; omega
      have hi : ∀ w, (Instr.index 65 (.agg #[.int .i64 31, .int .i64 28, .int .i64 31, .int .i64 30, .int .i64 31, .int .i64 30, .int .i64 31, .int .i64 31, .int .i64 30, .int .i64 31, .int .i64 30, .int .i64 31]) (.int .i64 1)).run Tryz.prog w = .ok (.int .i64 28) w := fun _ => by kernel_rfl
      clear ht
      change Calls _ _ #[.int .i64 (y : Int), .int .i64 (2 : Int)] _ _
      go_enter Tryz.func37, Tryz.ntmps37
      go_wp2
      go_ret
      exact ⟨by rw [E.out]; rfl, rfl⟩
  · have h12 : m = 1 ∨ m = 3 ∨ m = 4 ∨ m = 5 ∨ m = 6 ∨ m = 7 ∨ m = 8 ∨ m = 9 ∨ m = 10 ∨ m = 11 ∨ m = 12 := by omega
    clear h2 ht h0 h1
    rcases h12 with rfl | rfl | rfl | rfl | rfl | rfl | rfl | rfl | rfl | rfl | rfl
    · have hi : ∀ w, (Instr.index 65 (.agg #[.int .i64 31, .int .i64 28, .int .i64 31, .int .i64 30, .int .i64 31, .int .i64 30, .int .i64 31, .int .i64 31, .int .i64 30, .int .i64 31, .int .i64 30, .int .i64 31]) (.int .i64 0)).run Tryz.prog w = .ok (.int .i64 31) w := fun _ => by kernel_rfl
      have E : Hid (lenB (leapB y) 1 = 31) := Lib.hid (by cases leapB y <;> rfl)
      change Calls _ _ #[.int .i64 (y : Int), .int .i64 (1 : Int)] _ _
      go_enter Tryz.func37, Tryz.ntmps37
      go_wp2
      go_ret
      exact ⟨by rw [E.out]; rfl, rfl⟩
    · have hi : ∀ w, (Instr.index 65 (.agg #[.int .i64 31, .int .i64 28, .int .i64 31, .int .i64 30, .int .i64 31, .int .i64 30, .int .i64 31, .int .i64 31, .int .i64 30, .int .i64 31, .int .i64 30, .int .i64 31]) (.int .i64 2)).run Tryz.prog w = .ok (.int .i64 31) w := fun _ => by kernel_rfl
      have E : Hid (lenB (leapB y) 3 = 31) := Lib.hid (by cases leapB y <;> rfl)
      change Calls _ _ #[.int .i64 (y : Int), .int .i64 (3 : Int)] _ _
      go_enter Tryz.func37, Tryz.ntmps37
      go_wp2
      go_ret
      exact ⟨by rw [E.out]; rfl, rfl⟩
    · have hi : ∀ w, (Instr.index 65 (.agg #[.int .i64 31, .int .i64 28, .int .i64 31, .int .i64 30, .int .i64 31, .int .i64 30, .int .i64 31, .int .i64 31, .int .i64 30, .int .i64 31, .int .i64 30, .int .i64 31]) (.int .i64 3)).run Tryz.prog w = .ok (.int .i64 30) w := fun _ => by kernel_rfl
      have E : Hid (lenB (leapB y) 4 = 30) := Lib.hid (by cases leapB y <;> rfl)
      change Calls _ _ #[.int .i64 (y : Int), .int .i64 (4 : Int)] _ _
      go_enter Tryz.func37, Tryz.ntmps37
      go_wp2
      go_ret
      exact ⟨by rw [E.out]; rfl, rfl⟩
    · have hi : ∀ w, (Instr.index 65 (.agg #[.int .i64 31, .int .i64 28, .int .i64 31, .int .i64 30, .int .i64 31, .int .i64 30, .int .i64 31, .int .i64 31, .int .i64 30, .int .i64 31, .int .i64 30, .int .i64 31]) (.int .i64 4)).run Tryz.prog w = .ok (.int .i64 31) w := fun _ => by kernel_rfl
      have E : Hid (lenB (leapB y) 5 = 31) := Lib.hid (by cases leapB y <;> rfl)
      change Calls _ _ #[.int .i64 (y : Int), .int .i64 (5 : Int)] _ _
      go_enter Tryz.func37, Tryz.ntmps37
      go_wp2
      go_ret
      exact ⟨by rw [E.out]; rfl, rfl⟩
    · have hi : ∀ w, (Instr.index 65 (.agg #[.int .i64 31, .int .i64 28, .int .i64 31, .int .i64 30, .int .i64 31, .int .i64 30, .int .i64 31, .int .i64 31, .int .i64 30, .int .i64 31, .int .i64 30, .int .i64 31]) (.int .i64 5)).run Tryz.prog w = .ok (.int .i64 30) w := fun _ => by kernel_rfl
      have E : Hid (lenB (leapB y) 6 = 30) := Lib.hid (by cases leapB y <;> rfl)
      change Calls _ _ #[.int .i64 (y : Int), .int .i64 (6 : Int)] _ _
      go_enter Tryz.func37, Tryz.ntmps37
      go_wp2
      go_ret
      exact ⟨by rw [E.out]; rfl, rfl⟩
    · have hi : ∀ w, (Instr.index 65 (.agg #[.int .i64 31, .int .i64 28, .int .i64 31, .int .i64 30, .int .i64 31, .int .i64 30, .int .i64 31, .int .i64 31, .int .i64 30, .int .i64 31, .int .i64 30, .int .i64 31]) (.int .i64 6)).run Tryz.prog w = .ok (.int .i64 31) w := fun _ => by kernel_rfl
      have E : Hid (lenB (leapB y) 7 = 31) := Lib.hid (by cases leapB y <;> rfl)
      change Calls _ _ #[.int .i64 (y : Int), .int .i64 (7 : Int)] _ _
      go_enter Tryz.func37, Tryz.ntmps37
      go_wp2
      go_ret
      exact ⟨by rw [E.out]; rfl, rfl⟩
    · have hi : ∀ w, (Instr.index 65 (.agg #[.int .i64 31, .int .i64 28, .int .i64 31, .int .i64 30, .int .i64 31, .int .i64 30, .int .i64 31, .int .i64 31, .int .i64 30, .int .i64 31, .int .i64 30, .int .i64 31]) (.int .i64 7)).run Tryz.prog w = .ok (.int .i64 31) w := fun _ => by kernel_rfl
      have E : Hid (lenB (leapB y) 8 = 31) := Lib.hid (by cases leapB y <;> rfl)
      change Calls _ _ #[.int .i64 (y : Int), .int .i64 (8 : Int)] _ _
      go_enter Tryz.func37, Tryz.ntmps37
      go_wp2
      go_ret
      exact ⟨by rw [E.out]; rfl, rfl⟩
    · have hi : ∀ w, (Instr.index 65 (.agg #[.int .i64 31, .int .i64 28, .int .i64 31, .int .i64 30, .int .i64 31, .int .i64 30, .int .i64 31, .int .i64 31, .int .i64 30, .int .i64 31, .int .i64 30, .int .i64 31]) (.int .i64 8)).run Tryz.prog w = .ok (.int .i64 30) w := fun _ => by kernel_rfl
      have E : Hid (lenB (leapB y) 9 = 30) := Lib.hid (by cases leapB y <;> rfl)
      change Calls _ _ #[.int .i64 (y : Int), .int .i64 (9 : Int)] _ _
      go_enter Tryz.func37, Tryz.ntmps37
      go_wp2
      go_ret
      exact ⟨by rw [E.out]; rfl, rfl⟩
    · have hi : ∀ w, (Instr.index 65 (.agg #[.int .i64 31, .int .i64 28, .int .i64 31, .int .i64 30, .int .i64 31, .int .i64 30, .int .i64 31, .int .i64 31, .int .i64 30, .int .i64 31, .int .i64 30, .int .i64 31]) (.int .i64 9)).run Tryz.prog w = .ok (.int .i64 31) w := fun _ => by kernel_rfl
      have E : Hid (lenB (leapB y) 10 = 31) := Lib.hid (by cases leapB y <;> rfl)
      change Calls _ _ #[.int .i64 (y : Int), .int .i64 (10 : Int)] _ _
      go_enter Tryz.func37, Tryz.ntmps37
      go_wp2
      go_ret
      exact ⟨by rw [E.out]; rfl, rfl⟩
    · have hi : ∀ w, (Instr.index 65 (.agg #[.int .i64 31, .int .i64 28, .int .i64 31, .int .i64 30, .int .i64 31, .int .i64 30, .int .i64 31, .int .i64 31, .int .i64 30, .int .i64 31, .int .i64 30, .int .i64 31]) (.int .i64 10)).run Tryz.prog w = .ok (.int .i64 30) w := fun _ => by kernel_rfl
      have E : Hid (lenB (leapB y) 11 = 30) := Lib.hid (by cases leapB y <;> rfl)
      change Calls _ _ #[.int .i64 (y : Int), .int .i64 (11 : Int)] _ _
      go_enter Tryz.func37, Tryz.ntmps37
      go_wp2
      go_ret
      exact ⟨by rw [E.out]; rfl, rfl⟩
    · have hi : ∀ w, (Instr.index 65 (.agg #[.int .i64 31, .int .i64 28, .int .i64 31, .int .i64 30, .int .i64 31, .int .i64 30, .int .i64 31, .int .i64 31, .int .i64 30, .int .i64 31, .int .i64 30, .int .i64 31]) (.int .i64 11)).run Tryz.prog w = .ok (.int .i64 31) w := fun _ => by kernel_rfl
      have E : Hid (lenB (leapB y) 12 = 31) := Lib.hid (by cases leapB y <;> rfl)
      change Calls _ _ #[.int .i64 (y : Int), .int .i64 (12 : Int)] _ _
      go_enter Tryz.func37, Tryz.ntmps37
      go_wp2
      go_ret
      exact ⟨by rw [E.out]; rfl, rfl⟩

theorem i_yearDays (y : Nat) (w : World) :
    Calls Tryz.prog 38 #[.int .i64 y] w fun e w' => e = .returned (.int .i64 (mAcc (leapB y) 12 : Nat)) ∧ w = w' := by
  have E : Hid ((mAcc (leapB y) 12 : Nat) = (337 : Int) + (lenB (leapB y) 2 : Nat)) := Lib.hid (by cases leapB y <;> rfl)
  have hr := (lenB_range (leapB y) 2).2
  go_enter Tryz.func38, Tryz.ntmps38
  go_wp2_with fail
  refine (i_monthDays y 2 _ (by omega) (by omega)).mono ?_
  rintro e w1 ⟨rfl, rfl⟩
  go_wp2
  go_ret
  exact ⟨by rw [E.out]; rfl, rfl⟩

theorem year_left {D y r : Nat} (hy : 2000 ≤ y) (h : r + yAcc (y - 2000) = D) (hM : ¬ r < mAcc (leapB y) 12) : r - mAcc (leapB y) 12 + yAcc (y + 1 - 2000) = D := by
  have := yAcc_next hy
  rw [show y + 1 - 2000 = y - 2000 + 1 by omega]
  omega
theorem year_few {D y r : Nat} (hD : D ≤ 36524) (hy : 2000 ≤ y) (hy1 : y ≤ 2099) (h : r + yAcc (y - 2000) = D) (hM : ¬ r < mAcc (leapB y) 12) : y + 1 ≤ 2099 := by
  have h1 := year_left hy h hM
  have h2 := yAcc_mono (j := 100) (k := y + 1 - 2000)
  have h3 : yAcc 100 = 36525 := rfl
  rcases Nat.lt_or_ge y 2099 with h4 | h4
  · omega
  · have := h2 (by omega); omega
theorem month_left {b : Bool} {m r R : Nat} (hm : 1 ≤ m) (h : r + mAcc b (m - 1) = R) (hM : ¬ r < lenB b m) : r - lenB b m + mAcc b (m + 1 - 1) = R := by
  have := mAcc_step b hm
  rw [Nat.add_sub_cancel]
  omega
theorem month_few {b : Bool} {m r R : Nat} (hm : 1 ≤ m) (hm1 : m ≤ 12) (h : r + mAcc b (m - 1) = R) (hR : R < mAcc b 12) (hM : ¬ r < lenB b m) : m + 1 ≤ 12 := by
  have h1 := month_left hm h hM
  rw [Nat.add_sub_cancel] at h1
  rcases Nat.lt_or_ge m 12 with h4 | h4
  · omega
  · obtain rfl : m = 12 := by omega
    omega
theorem date_of {D y m r R : Nat} (hy : 2000 ≤ y) (hy1 : y ≤ 2099) (hm : 1 ≤ m) (hm1 : m ≤ 12) (h : R + yAcc (y - 2000) = D) (h' : r + mAcc (leapB y) (m - 1) = R) (hr : r < lenB (leapB y) m) : DateOk y m (r + 1) ∧ dayNo y m (r + 1) = D := by
  refine ⟨⟨hy, hy1, hm, hm1, by omega, by omega⟩, ?_⟩
  unfold dayNo
  omega
set_option maxRecDepth 100000 in
set_option maxHeartbeats 2000000 in
theorem i_DateOf (D : Nat) (w : World) (hD : D ≤ 36524) :
    Calls Tryz.prog 39 #[.int .i64 D] w fun e w' => ∃ y m d : Nat, DateOk y m d ∧ dayNo y m d = D ∧ e = .returned (.tuple #[.int .i64 y, .int .i64 m, .int .i64 d, .int .i64 0]) ∧ Below w.heap.size w w' := by
  have hin : inB (D : Int) 0 36524 = true := inB_true (by omega) (by omega)
  have hI := i_isDay (D : Int) w
  rw [hin] at hI
  clear hin
  go_enter Tryz.func39, Tryz.ntmps39
  go_wp2_with fail
  refine hI.mono ?_
  rintro e w' ⟨rfl, rfl⟩
  clear hI
  go_wp2
  go_loopw [0, 6] (fun v y wr => ∃ r q : Nat, v = .int .i64 r ∧ y = .int .i64 q ∧ 2000 ≤ q ∧ q ≤ 2099 ∧ r + yAcc (q - 2000) = D ∧ Below w.heap.size w wr) (fun v _ _ => (intOf v).toNat)
  case atStart => exact ⟨D, 2000, rfl, rfl, by omega, by omega, rfl, Below.refl _ _⟩
  case round =>
    obtain ⟨r, q, rfl, rfl, hq0, hq1, hrel, hb⟩ := hrel
    have hI : ∀ W, Calls Tryz.prog 38 #[.int .i64 q] W fun e w' => e = .returned (.int .i64 (mAcc (leapB q) 12 : Nat)) ∧ W = w' := fun W => i_yearDays q W
    have hL := yAcc_next hq0
    by_cases hlt : r < mAcc (leapB q) 12
    · have HR := Lib.hid hrel
      have HL := Lib.hid hlt
      obtain ⟨M, hM⟩ : ∃ M, mAcc (leapB q) 12 = M := ⟨_, rfl⟩
      have HM := Lib.hid hM
      rw [hM] at hI hlt
      have hd : decide (M ≤ r) = false := decide_eq_false (by omega)
      clear hL hM hrel
      go_wp2_with fail
      refine (hI _).mono ?_
      rintro e w' ⟨rfl, rfl⟩
      clear hI
      go_wp2
      try rw [hd]
      clear hlt hd
      go_loopw [0, 7] (fun v y wr => ∃ s p : Nat, v = .int .i64 s ∧ y = .int .i64 p ∧ 1 ≤ p ∧ p ≤ 12 ∧ s + mAcc (leapB q) (p - 1) = r ∧ Below w.heap.size w wr) (fun v _ _ => (intOf v).toNat)
      case atStart => exact ⟨r, 1, rfl, rfl, by omega, by omega, rfl, hb⟩
      case round =>
        obtain ⟨s, p, rfl, rfl, hp0, hp1, hrel, hb⟩ := hrel
        have hJ : ∀ W, Calls Tryz.prog 37 #[.int .i64 q, .int .i64 p] W fun e w' => e = .returned (.int .i64 (lenB (leapB q) p : Nat)) ∧ W = w' := fun W => i_monthDays q p W hp0 hp1
        have h28 := (lenB_range (leapB q) p).1
        by_cases hlt : s < lenB (leapB q) p
        · have h31 : s ≤ 30 := by have := (lenB_range (leapB q) p).2; omega
          have HD := Lib.hid (date_of hq0 hq1 hp0 hp1 HR.out hrel hlt)
          obtain ⟨N, hN⟩ : ∃ N, lenB (leapB q) p = N := ⟨_, rfl⟩
          rw [hN] at hJ hlt
          clear hrel h28 hN
          go_wp2_with fail
          refine (hJ _).mono ?_
          rintro e w' ⟨rfl, rfl⟩
          clear hJ
          go_wp2
          exact bodyPost_ret (v := .tuple #[.int .i64 q, .int .i64 p, .int .i64 ((s : Int) + 1), .int .i64 0]) (by simp [results, Tryz.results39, go_sem]) rfl ⟨q, p, s + 1, HD.out.1, HD.out.2, rfl, hb⟩
        · have HN := Lib.hid (month_left hp0 hrel hlt)
          have HF := month_few hp0 hp1 hrel (by have := HL.out; omega) hlt
          obtain ⟨N, hN⟩ : ∃ N, lenB (leapB q) p = N := ⟨_, rfl⟩
          rw [hN] at hJ hlt HN h28
          have hsD : s ≤ 36524 := by have := HR.out; omega
          have e1 : (s : Int) - (N : Int) = ((s - N : Nat) : Int) := by omega
          have e2 : s - N ≤ 36524 := by omega
          clear hN hrel
          go_wp2_with fail
          refine (hJ _).mono ?_
          rintro e w' ⟨rfl, rfl⟩
          go_wp2_with fail
          refine (hJ _).mono ?_
          rintro e w' ⟨rfl, rfl⟩
          clear hJ
          go_wp2
          first | (refine ⟨⟨s - N, p + 1, rfl, by go_num, by omega, HF, HN.out, hb⟩, ?_⟩; (simp [intOf]; omega)) | (go_roundw; (case rel => first | exact ⟨s - N, p + 1, rfl, by go_num, by omega, HF, HN.out, hb⟩ | ((try refine ⟨trivial, ?_⟩); (repeat apply Exists.intro); exact ⟨⟨s - N, p + 1, rfl, by go_num, by omega, HF, HN.out, hb⟩, rfl⟩)); (case measure => (simp [intOf]; omega)))
    · have HN := Lib.hid (year_left hq0 hrel hlt)
      have HF := year_few hD hq0 hq1 hrel hlt
      have h365 : 365 ≤ mAcc (leapB q) 12 := by rw [mAcc_full]; split <;> omega
      obtain ⟨M, hM⟩ : ∃ M, mAcc (leapB q) 12 = M := ⟨_, rfl⟩
      rw [hM] at hI hlt HN h365
      have hrD : r ≤ 36524 := by omega
      have e1 : (r : Int) - (M : Int) = ((r - M : Nat) : Int) := by omega
      have e2 : r - M ≤ 36524 := by omega
      clear hL hM hrel
      go_wp2_with fail
      refine (hI _).mono ?_
      rintro e w' ⟨rfl, rfl⟩
      go_wp2_with fail
      refine (hI _).mono ?_
      rintro e w' ⟨rfl, rfl⟩
      clear hI
      go_wp2
      first | (refine ⟨⟨r - M, q + 1, rfl, by go_num, by omega, HF, HN.out, hb⟩, ?_⟩; (simp [intOf]; omega)) | (go_roundw; (case rel => first | exact ⟨r - M, q + 1, rfl, by go_num, by omega, HF, HN.out, hb⟩ | ((try refine ⟨trivial, ?_⟩); (repeat apply Exists.intro); exact ⟨⟨r - M, q + 1, rfl, by go_num, by omega, HF, HN.out, hb⟩, rfl⟩)); (case measure => (simp [intOf]; omega)))

def dateOkB (y m d : Nat) : Bool := inB (y : Int) 2000 2099 && (inB (m : Int) 1 12 && inB (d : Int) 1 (lenB (leapB y) m : Nat))
theorem dateOkB_iff {y m d : Nat} : dateOkB y m d = true ↔ DateOk y m d := by
  unfold dateOkB inB
  simp only [Bool.and_eq_true, decide_eq_true_eq]
  exact ⟨fun h => ⟨by omega, by omega, by omega, by omega, by omega, by omega⟩, fun h => by have := h.y0; have := h.y1; have := h.m0; have := h.m1; have := h.d0; have := h.d1; omega⟩
def dnV (y m d : Nat) : Int := if dateOkB y m d then (dayNo y m d : Nat) else 0
def dnC (y m d : Nat) : Int := if dateOkB y m d then 0 else 2
theorem dn_no {y m d : Nat} (h : dateOkB y m d = false) : (0 : Int) = dnV y m d ∧ (2 : Int) = dnC y m d := by unfold dnV dnC; rw [h]; exact ⟨rfl, rfl⟩
theorem dn_yes {y m d s : Nat} (h : dateOkB y m d = true) (hs : dayNo y m d = s) : (s : Int) = dnV y m d ∧ (0 : Int) = dnC y m d := by unfold dnV dnC; rw [h, hs]; exact ⟨rfl, rfl⟩
theorem ret_two {a b c d : Int} (h : a = c ∧ b = d) : Ending.returned (.tuple #[.int .i64 a, .int .i64 b]) = .returned (.tuple #[.int .i64 c, .int .i64 d]) := by rw [h.1, h.2]
set_option maxRecDepth 100000 in
set_option maxHeartbeats 2000000 in
theorem i_DayNumber (y m d : Nat) (w : World) (hd : d ≤ 4611686018427387904) :
    Calls Tryz.prog 20 #[.int .i64 y, .int .i64 m, .int .i64 d] w fun e w' => e = .returned (.tuple #[.int .i64 (dnV y m d), .int .i64 (dnC y m d)]) ∧ Below w.heap.size w w' := by
  go_enter Tryz.func20, Tryz.ntmps20
  go_wp2_with fail
  refine (i_within _ _ _ _).mono ?_
  rintro e w' ⟨rfl, rfl⟩
  rcases hy : inB (y : Int) 2000 2099 with _ | _
  · have E : Hid (dateOkB y m d = false) := Lib.hid (by unfold dateOkB; rw [hy]; rfl)
    clear hy
    go_wp2
    go_ret2
    exact ⟨ret_two (dn_no E.out), Below.refl _ _⟩
  · have HY := Lib.hid hy; clear hy
    go_wp2_with fail
    refine (i_within _ _ _ _).mono ?_
    rintro e w' ⟨rfl, rfl⟩
    rcases hm : inB (m : Int) 1 12 with _ | _
    · have E : Hid (dateOkB y m d = false) := Lib.hid (by unfold dateOkB; rw [hm, Bool.false_and, Bool.and_false])
      clear hm
      go_wp2
      go_ret2
      exact ⟨ret_two (dn_no E.out), Below.refl _ _⟩
    · have HM := Lib.hid hm
      have hmm := inB_spec hm
      clear hm
      go_wp2_with fail
      refine (i_monthDays y m _ (by omega) (by omega)).mono ?_
      rintro e w' ⟨rfl, rfl⟩
      go_wp2_with fail
      refine (i_within _ _ _ _).mono ?_
      rintro e w' ⟨rfl, rfl⟩
      rcases hdd : inB (d : Int) 1 (lenB (leapB y) m : Nat) with _ | _
      · have E : Hid (dateOkB y m d = false) := Lib.hid (by unfold dateOkB; rw [hdd, Bool.and_false, Bool.and_false])
        clear hdd
        go_wp2
        go_ret2
        exact ⟨ret_two (dn_no E.out), Below.refl _ _⟩
      · have E : Hid (dateOkB y m d = true) := Lib.hid (by unfold dateOkB; rw [HY.out, HM.out, hdd]; rfl)
        have hok := dateOkB_iff.1 E.out
        have hd31 := hok.d31
        have hd0 := hok.d0
        have hy0 := hok.y0
        have hy1 := hok.y1
        have hm0 := hok.m0
        have hm1 := hok.m1
        have e0 : (d : Int) - 1 = ((d - 1 : Nat) : Int) := by omega
        clear hdd hok
        go_wp2
        go_loopw [8, 9] (fun v i wr => ∃ q r : Nat, v = .int .i64 r ∧ i = .int .i64 q ∧ 2000 ≤ q ∧ q ≤ y ∧ r = yAcc (q - 2000) + (d - 1) ∧ Below w.heap.size w wr) (fun _ i _ => y - (intOf i).toNat)
        case atStart => exact ⟨2000, d - 1, by first | rfl | go_num, rfl, by omega, by omega, by simp [yAcc], Below.refl _ _⟩
        case round =>
          obtain ⟨q, r, rfl, rfl, hq0, hq1, hrel, hb⟩ := hrel
          have hI : ∀ W, Calls Tryz.prog 38 #[.int .i64 q] W fun e w' => e = .returned (.int .i64 (mAcc (leapB q) 12 : Nat)) ∧ W = w' := fun W => i_yearDays q W
          have hN := yAcc_next hq0
          have hr : r ≤ 40000 := by rw [hrel]; unfold yAcc; omega
          by_cases hlt : q < y
          · have hM : mAcc (leapB q) 12 ≤ 366 := by rw [mAcc_full]; split <;> omega
            have HN : Hid (r + mAcc (leapB q) 12 = yAcc (q + 1 - 2000) + (d - 1)) := Lib.hid (by rw [show q + 1 - 2000 = q - 2000 + 1 by omega, hN, hrel]; omega)
            obtain ⟨M, hMM⟩ : ∃ M, mAcc (leapB q) 12 = M := ⟨_, rfl⟩
            rw [hMM] at hI hM HN
            clear hN hMM hrel
            go_wp2_with fail
            refine (hI _).mono ?_
            rintro e w' ⟨rfl, rfl⟩
            clear hI
            go_wp2
            first | (refine ⟨⟨q + 1, r + M, by go_num, by go_num, by omega, by omega, HN.out, hb⟩, ?_⟩; (simp [intOf]; omega)) | (go_roundw; (case rel => first | exact ⟨q + 1, r + M, by go_num, by go_num, by omega, by omega, HN.out, hb⟩ | ((try refine ⟨trivial, ?_⟩); (repeat apply Exists.intro); exact ⟨⟨q + 1, r + M, by go_num, by go_num, by omega, by omega, HN.out, hb⟩, rfl⟩)); (case measure => (simp [intOf]; omega)))
          · obtain rfl : q = y := by omega
            have HR := Lib.hid hrel
            clear hN hI hrel hlt
            go_wp2
            go_loopw [8, 10] (fun v i wr => ∃ p s : Nat, v = .int .i64 s ∧ i = .int .i64 p ∧ 1 ≤ p ∧ p ≤ m ∧ s = r + mAcc (leapB q) (p - 1) ∧ Below w.heap.size w wr) (fun _ i _ => m - (intOf i).toNat)
            case atStart => exact ⟨1, r, rfl, rfl, by omega, by omega, rfl, hb⟩
            case round =>
              obtain ⟨p, s, rfl, rfl, hp0, hp1, hrel, hb⟩ := hrel
              have hs : s ≤ 41000 := by
                have h1 := mAcc_mono (leapB q) (show p - 1 ≤ 12 by omega)
                have h2 := mAcc_full (leapB q)
                have : mAcc (leapB q) 12 ≤ 366 := by rw [h2]; split <;> omega
                omega
              by_cases hlt : p < m
              · have h31 := (lenB_range (leapB q) p).2
                have HN : Hid (s + lenB (leapB q) p = r + mAcc (leapB q) (p + 1 - 1)) := Lib.hid (by rw [Nat.add_sub_cancel, mAcc_step _ hp0, hrel]; omega)
                clear hrel
                go_wp2_with fail
                refine (i_monthDays q p _ (by omega) (by omega)).mono ?_
                rintro e w' ⟨rfl, rfl⟩
                obtain ⟨M, hMM⟩ : ∃ M, lenB (leapB q) p = M := ⟨_, rfl⟩
                rw [hMM] at h31 HN
                simp only [hMM]
                clear hMM
                go_wp2
                first | (refine ⟨⟨p + 1, s + M, by go_num, by go_num, by omega, by omega, HN.out, hb⟩, ?_⟩; (simp [intOf]; omega)) | (go_roundw; (case rel => first | exact ⟨p + 1, s + M, by go_num, by go_num, by omega, by omega, HN.out, hb⟩ | ((try refine ⟨trivial, ?_⟩); (repeat apply Exists.intro); exact ⟨⟨p + 1, s + M, by go_num, by go_num, by omega, by omega, HN.out, hb⟩, rfl⟩)); (case measure => (simp [intOf]; omega)))
              · obtain rfl : p = m := by omega
                have HD : Hid (dayNo q p d = s) := Lib.hid (by unfold dayNo; rw [hrel, HR.out]; omega)
                clear hrel hlt
                go_wp2
                go_ret2
                exact ⟨ret_two (dn_yes E.out HD.out), hb⟩

end Go.Proofs.YtdkpgcnjlamcbaaGreatDoor
