/- Days and dates: both sides' walks, the texts. -/
import Derived.Test.YtdkpgcnjlamcbaaGreatDoorRows
import Derived.Test.YtdkpgcnjlamcbaaGreatDoorDates
import Derived.Test.YtdkpgcnjlamcbaaGreatDoorSText
import Derived.Test.YtdkpgcnjlamcbaaGreatDoorResG
namespace Go.Proofs.YtdkpgcnjlamcbaaGreatDoor
set_option linter.unusedVariables false
set_option linter.unusedSimpArgs false
set_option linter.unusedSectionVars false
open Go.RowKit

def digV (s : ByteArray) : Int := (((Lib.decFrom 0 s.data.toList).getD 0 : Nat) : Int)
def digOk (s : ByteArray) : Bool := (Lib.decFrom 0 s.data.toList).isSome
def dateV (s : ByteArray) : Int := (((dateRead s.data.toList).getD 0 : Nat) : Int)
def dateOk (s : ByteArray) : Bool := (dateRead s.data.toList).isSome
theorem dig_no {s : ByteArray} (h : Lib.decFrom 0 s.data.toList = none) : (0 : Int) = digV s ∧ false = digOk s := by unfold digV digOk; rw [h]; exact ⟨rfl, rfl⟩
theorem dig_yes {s : ByteArray} {m : Nat} (h : Lib.decFrom 0 s.data.toList = some m) : (m : Int) = digV s ∧ true = digOk s := by unfold digV digOk; rw [h]; exact ⟨rfl, rfl⟩
theorem dt_no {s : ByteArray} (h : dateRead s.data.toList = none) : (0 : Int) = dateV s ∧ false = dateOk s := by unfold dateV dateOk; rw [h]; exact ⟨rfl, rfl⟩
theorem dt_yes {s : ByteArray} {m : Nat} (h : dateRead s.data.toList = some m) : (m : Int) = dateV s ∧ true = dateOk s := by unfold dateV dateOk; rw [h]; exact ⟨rfl, rfl⟩
theorem ret_ib {a c : Int} {b d : Bool} (h : a = c ∧ b = d) : Ending.returned (.tuple #[.int .i64 a, .bool b]) = .returned (.tuple #[.int .i64 c, .bool d]) := by rw [h.1, h.2]
theorem dec_badF {ds : List UInt8} {k : Nat} {c : UInt8} (hx : ds[k]? = some c) (hd : digB c = false) : Lib.decFrom 0 ds = none := by
  cases h : Lib.decFrom 0 ds with
  | none => rfl
  | some m =>
    obtain ⟨d, hd'⟩ := Lib.digit_of_decFrom ds 0 m h k c hx
    unfold Lib.digitVal at hd'
    split at hd'
    · rename_i h2
      have : digB c = true := by unfold digB inB; simp only [Bool.and_eq_true, decide_eq_true_eq]; omega
      rw [this] at hd; cases hd
    · cases hd'
theorem len_data (s : ByteArray) : s.data.toList.length = s.size := by simp
theorem cut_data (s : ByteArray) (a b : Nat) : (s.extract a b).data.toList = (s.data.toList.drop a).take (b - a) := by
  simp [List.extract_eq_take_drop]

set_option maxRecDepth 100000 in
set_option maxHeartbeats 2000000 in
theorem s_l02Digits (s : ByteArray) (w : World) (hs : s.size ≤ 18) :
    Calls Tryz.prog 26 #[.string s] w fun e w' => e = .returned (.tuple #[.int .i64 (digV s), .bool (digOk s)]) ∧ w = w' := by
  go_enter Tryz.func26, Tryz.ntmps26
  go_wp2_with fail
  go_loop [4, 5] (fun nv iv => ∃ (k m : Nat), k ≤ s.size ∧ iv = .int .i64 k ∧ nv = .int .i64 (m : Int) ∧ Hid (Lib.decFrom 0 (s.data.toList.take k) = some m)) (fun _ i => s.size - (intOf i).toNat)
  case atStart => exact ⟨0, 0, Nat.zero_le _, rfl, rfl, Lib.hid rfl⟩
  case round =>
    obtain ⟨k, m, hk, rfl, rfl, HM⟩ := hrel
    by_cases hlt : k < s.size
    · have hx := byte_at s k hlt
      go_wp2_with fail
      refine (s_l01Digit s[k] _).mono ?_
      rintro e w' ⟨rfl, rfl⟩
      rcases hd : digB s[k] with _ | _
      · have E := Lib.hid (dec_badF hx hd)
        clear hd hx
        go_wp2
        go_ret2
        exact ⟨ret_ib (dig_no E.out), rfl⟩
      · obtain ⟨h48, h57⟩ := dig_range hd
        have hmb : m < 100000000000000000 := dec_lt17 HM.out (by rw [List.length_take, len_data]; omega)
        have HK : Hid (Lib.decFrom 0 (s.data.toList.take (k + 1)) = some (m * 10 + (s[k].toNat - 48))) := Lib.hid (Lib.decFrom_take s.data.toList k 0 m s[k] _ HM.out hx (by unfold Lib.digitVal; rw [if_pos ⟨by omega, by omega⟩]))
        clear hd hx
        go_wp2
        first | (refine ⟨⟨k + 1, m * 10 + (s[k].toNat - 48), by omega, by go_num, by (congr 1; omega), HK⟩, ?_⟩; (simp [intOf]; omega)) | (go_round; (case rel => first | exact ⟨k + 1, m * 10 + (s[k].toNat - 48), by omega, by go_num, by (congr 1; omega), HK⟩ | ((try refine ⟨trivial, ?_⟩); (repeat apply Exists.intro); exact ⟨⟨k + 1, m * 10 + (s[k].toNat - 48), by omega, by go_num, by (congr 1; omega), HK⟩, rfl⟩)); (case measure => (simp [intOf]; omega)))
    · have E : Hid (Lib.decFrom 0 s.data.toList = some m) := Lib.hid (by have h := HM.out; rw [List.take_of_length_le (by rw [len_data]; omega)] at h; exact h)
      have hmb : m < 1000000000000000000 := dec_lt18 E.out (by rw [len_data]; omega)
      go_wp2
      go_ret2
      exact ⟨ret_ib (dig_yes E.out), rfl⟩

def DigR (s : ByteArray) (w : World) (e : Ending) (w' : World) : Prop := (∃ b, e = .returned (.tuple #[.int .i64 (digN s.data.toList : Nat), .bool b])) ∧ w = w'
theorem digN_no {s : ByteArray} (h : Lib.decFrom 0 s.data.toList = none) : digN s.data.toList = 0 := by unfold digN; rw [h]; split <;> rfl
theorem digN_yes {s : ByteArray} {m : Nat} (h0 : s.size ≠ 0) (h18 : s.size ≤ 18) (h : Lib.decFrom 0 s.data.toList = some m) : digN s.data.toList = m := by
  unfold digN
  rw [if_neg, h]
  · rfl
  · rintro (h1 | h1)
    · rw [← len_data, h1] at h0; exact h0 rfl
    · rw [len_data] at h1; omega
theorem digN_lt (s : ByteArray) : digN s.data.toList < 1000000000000000000 := by
  unfold digN
  split
  · omega
  · rename_i h
    cases hd : Lib.decFrom 0 s.data.toList with
    | none => simp
    | some m => exact dec_lt18 hd (by rcases Nat.lt_or_ge 18 s.data.toList.length with h1 | h1; exact absurd (.inr h1) h; exact h1)
set_option maxRecDepth 100000 in
set_option maxHeartbeats 2000000 in
theorem i_digitsOf (s : ByteArray) (w : World) (hs : s.size ≤ 1048576) :
    Calls Tryz.prog 19 #[.string s] w (DigR s w) := by
  have hse : s.size = 0 → digN s.data.toList = 0 := fun h => by unfold digN; rw [if_pos (.inl (List.eq_nil_of_length_eq_zero (by rw [len_data]; exact h)))]
  by_cases h0 : s.size = 0
  · have E := Lib.hid (hse h0)
    have he : (s.toList == []) = true := by rw [ByteArray.toList_eq, List.eq_nil_of_length_eq_zero (show s.data.toList.length = 0 by rw [len_data]; exact h0)]; rfl
    clear hse
    go_enter Tryz.func19, Tryz.ntmps19
    go_wp2
    go_ret2
    exact ⟨⟨false, by rw [E.out]; rfl⟩, rfl⟩
  have he : (s.toList == []) = false := by
    rw [beq_eq_false_iff_ne, ByteArray.toList_eq]
    intro h
    have := congrArg List.length h
    rw [len_data] at this
    exact h0 (this.trans rfl)
  clear hse
  by_cases h18 : 18 < s.size
  · have E : Hid (digN s.data.toList = 0) := Lib.hid (by unfold digN; rw [if_pos (.inr (by rw [len_data]; exact h18))])
    have h18' : (18 : Int) < (s.size : Int) := by omega
    clear h18
    go_enter Tryz.func19, Tryz.ntmps19
    go_wp2
    go_ret2
    exact ⟨⟨false, by rw [E.out]; rfl⟩, rfl⟩
  have h18' : ¬ (18 : Int) < (s.size : Int) := by omega
  go_enter Tryz.func19, Tryz.ntmps19
  go_wp2_with fail
  go_loop [4, 5] (fun nv iv => ∃ (k m : Nat), k ≤ s.size ∧ iv = .int .i64 k ∧ nv = .int .i64 (m : Int) ∧ Hid (Lib.decFrom 0 (s.data.toList.take k) = some m)) (fun _ i => s.size - (intOf i).toNat)
  case atStart => exact ⟨0, 0, Nat.zero_le _, rfl, rfl, Lib.hid rfl⟩
  case round =>
    obtain ⟨k, m, hk, rfl, rfl, HM⟩ := hrel
    by_cases hlt : k < s.size
    · have hx := byte_at s k hlt
      go_wp2_with fail
      refine (i_isDigit s[k] _).mono ?_
      rintro e w' ⟨rfl, rfl⟩
      rcases hd : digB s[k] with _ | _
      · have E := Lib.hid (dec_badF hx hd)
        clear hd hx
        go_wp2
        go_ret2
        exact ⟨⟨false, by rw [digN_no E.out]; rfl⟩, rfl⟩
      · obtain ⟨h48, h57⟩ := dig_range hd
        have hmb : m < 100000000000000000 := dec_lt17 HM.out (by rw [List.length_take, len_data]; omega)
        have HK : Hid (Lib.decFrom 0 (s.data.toList.take (k + 1)) = some (m * 10 + (s[k].toNat - 48))) := Lib.hid (Lib.decFrom_take s.data.toList k 0 m s[k] _ HM.out hx (by unfold Lib.digitVal; rw [if_pos ⟨by omega, by omega⟩]))
        clear hd hx
        go_wp2
        first | (refine ⟨⟨k + 1, m * 10 + (s[k].toNat - 48), by omega, by go_num, by (congr 1; omega), HK⟩, ?_⟩; (simp [intOf]; omega)) | (go_round; (case rel => first | exact ⟨k + 1, m * 10 + (s[k].toNat - 48), by omega, by go_num, by (congr 1; omega), HK⟩ | ((try refine ⟨trivial, ?_⟩); (repeat apply Exists.intro); exact ⟨⟨k + 1, m * 10 + (s[k].toNat - 48), by omega, by go_num, by (congr 1; omega), HK⟩, rfl⟩)); (case measure => (simp [intOf]; omega)))
    · have E : Hid (Lib.decFrom 0 s.data.toList = some m) := Lib.hid (by have h := HM.out; rw [List.take_of_length_le (by rw [len_data]; omega)] at h; exact h)
      have hmb : m < 1000000000000000000 := dec_lt18 E.out (by rw [len_data]; omega)
      go_wp2
      go_ret2
      exact ⟨⟨true, by rw [digN_yes h0 (by omega) E.out]; rfl⟩, rfl⟩

set_option maxRecDepth 100000 in
set_option maxHeartbeats 2000000 in
theorem s_l02Length (y m : Nat) (w : World) (h0 : 1 ≤ m) (h1 : m ≤ 12) :
    Calls Tryz.prog 46 #[.int .i64 y, .int .i64 m] w fun e w' => e = .returned (.int .i64 (lenB (leapB y) m : Nat)) ∧ Below w.heap.size w w' := by
  have ht := tmod4 y
  have hb : Below w.heap.size w (w.alloc (.cells #[.int .i64 31, .int .i64 28, .int .i64 31, .int .i64 30, .int .i64 31, .int .i64 30, .int .i64 31, .int .i64 31, .int .i64 30, .int .i64 31, .int .i64 30, .int .i64 31] 2)) := (Below.refl _ _).alloc (Nat.le_refl _) _
  have hR := range_new w #[.int .i64 31, .int .i64 28, .int .i64 31, .int .i64 30, .int .i64 31, .int .i64 30, .int .i64 31, .int .i64 31, .int .i64 30, .int .i64 31, .int .i64 30, .int .i64 31] 2
  by_cases h2 : m = 2
  · subst h2
    by_cases h4 : y % 4 = 0
    · have E := Lib.hid (len_leap h4)
      rw [h4] at ht
      have hi := hR 1 (.int .i64 28) rfl
      simp only [Nat.zero_add] at hi
      clear hR
      change Calls _ _ #[.int .i64 (y : Int), .int .i64 (2 : Int)] _ _
      go_enter Tryz.func46, Tryz.ntmps46
      go_wp2
      go_ret
      exact ⟨by rw [E.out]; rfl, hb⟩
    · have E := Lib.hid (len_common h4)
      have hq : (Int.tmod (y : Int) 4 == 0) = false := by rw [ht, beq_eq_false_iff_ne]; omega
      clear ht
      have hi := hR 1 (.int .i64 28) rfl
      simp only [Nat.zero_add] at hi
      clear hR
      change Calls _ _ #[.int .i64 (y : Int), .int .i64 (2 : Int)] _ _
      go_enter Tryz.func46, Tryz.ntmps46
      go_wp2
      go_ret
      exact ⟨by rw [E.out]; rfl, hb⟩
  · have h12 : m = 1 ∨ m = 3 ∨ m = 4 ∨ m = 5 ∨ m = 6 ∨ m = 7 ∨ m = 8 ∨ m = 9 ∨ m = 10 ∨ m = 11 ∨ m = 12 := by omega
    clear h2 ht h0 h1
    rcases h12 with rfl | rfl | rfl | rfl | rfl | rfl | rfl | rfl | rfl | rfl | rfl
    · have E : Hid (lenB (leapB y) 1 = 31) := Lib.hid (by cases leapB y <;> rfl)
      have hi := hR 0 (.int .i64 31) rfl
      simp only [Nat.zero_add] at hi
      clear hR
      change Calls _ _ #[.int .i64 (y : Int), .int .i64 (1 : Int)] _ _
      go_enter Tryz.func46, Tryz.ntmps46
      go_wp2
      go_ret
      exact ⟨by rw [E.out]; rfl, hb⟩
    · have E : Hid (lenB (leapB y) 3 = 31) := Lib.hid (by cases leapB y <;> rfl)
      have hi := hR 2 (.int .i64 31) rfl
      simp only [Nat.zero_add] at hi
      clear hR
      change Calls _ _ #[.int .i64 (y : Int), .int .i64 (3 : Int)] _ _
      go_enter Tryz.func46, Tryz.ntmps46
      go_wp2
      go_ret
      exact ⟨by rw [E.out]; rfl, hb⟩
    · have E : Hid (lenB (leapB y) 4 = 30) := Lib.hid (by cases leapB y <;> rfl)
      have hi := hR 3 (.int .i64 30) rfl
      simp only [Nat.zero_add] at hi
      clear hR
      change Calls _ _ #[.int .i64 (y : Int), .int .i64 (4 : Int)] _ _
      go_enter Tryz.func46, Tryz.ntmps46
      go_wp2
      go_ret
      exact ⟨by rw [E.out]; rfl, hb⟩
    · have E : Hid (lenB (leapB y) 5 = 31) := Lib.hid (by cases leapB y <;> rfl)
      have hi := hR 4 (.int .i64 31) rfl
      simp only [Nat.zero_add] at hi
      clear hR
      change Calls _ _ #[.int .i64 (y : Int), .int .i64 (5 : Int)] _ _
      go_enter Tryz.func46, Tryz.ntmps46
      go_wp2
      go_ret
      exact ⟨by rw [E.out]; rfl, hb⟩
    · have E : Hid (lenB (leapB y) 6 = 30) := Lib.hid (by cases leapB y <;> rfl)
      have hi := hR 5 (.int .i64 30) rfl
      simp only [Nat.zero_add] at hi
      clear hR
      change Calls _ _ #[.int .i64 (y : Int), .int .i64 (6 : Int)] _ _
      go_enter Tryz.func46, Tryz.ntmps46
      go_wp2
      go_ret
      exact ⟨by rw [E.out]; rfl, hb⟩
    · have E : Hid (lenB (leapB y) 7 = 31) := Lib.hid (by cases leapB y <;> rfl)
      have hi := hR 6 (.int .i64 31) rfl
      simp only [Nat.zero_add] at hi
      clear hR
      change Calls _ _ #[.int .i64 (y : Int), .int .i64 (7 : Int)] _ _
      go_enter Tryz.func46, Tryz.ntmps46
      go_wp2
      go_ret
      exact ⟨by rw [E.out]; rfl, hb⟩
    · have E : Hid (lenB (leapB y) 8 = 31) := Lib.hid (by cases leapB y <;> rfl)
      have hi := hR 7 (.int .i64 31) rfl
      simp only [Nat.zero_add] at hi
      clear hR
      change Calls _ _ #[.int .i64 (y : Int), .int .i64 (8 : Int)] _ _
      go_enter Tryz.func46, Tryz.ntmps46
      go_wp2
      go_ret
      exact ⟨by rw [E.out]; rfl, hb⟩
    · have E : Hid (lenB (leapB y) 9 = 30) := Lib.hid (by cases leapB y <;> rfl)
      have hi := hR 8 (.int .i64 30) rfl
      simp only [Nat.zero_add] at hi
      clear hR
      change Calls _ _ #[.int .i64 (y : Int), .int .i64 (9 : Int)] _ _
      go_enter Tryz.func46, Tryz.ntmps46
      go_wp2
      go_ret
      exact ⟨by rw [E.out]; rfl, hb⟩
    · have E : Hid (lenB (leapB y) 10 = 31) := Lib.hid (by cases leapB y <;> rfl)
      have hi := hR 9 (.int .i64 31) rfl
      simp only [Nat.zero_add] at hi
      clear hR
      change Calls _ _ #[.int .i64 (y : Int), .int .i64 (10 : Int)] _ _
      go_enter Tryz.func46, Tryz.ntmps46
      go_wp2
      go_ret
      exact ⟨by rw [E.out]; rfl, hb⟩
    · have E : Hid (lenB (leapB y) 11 = 30) := Lib.hid (by cases leapB y <;> rfl)
      have hi := hR 10 (.int .i64 30) rfl
      simp only [Nat.zero_add] at hi
      clear hR
      change Calls _ _ #[.int .i64 (y : Int), .int .i64 (11 : Int)] _ _
      go_enter Tryz.func46, Tryz.ntmps46
      go_wp2
      go_ret
      exact ⟨by rw [E.out]; rfl, hb⟩
    · have E : Hid (lenB (leapB y) 12 = 31) := Lib.hid (by cases leapB y <;> rfl)
      have hi := hR 11 (.int .i64 31) rfl
      simp only [Nat.zero_add] at hi
      clear hR
      change Calls _ _ #[.int .i64 (y : Int), .int .i64 (12 : Int)] _ _
      go_enter Tryz.func46, Tryz.ntmps46
      go_wp2
      go_ret
      exact ⟨by rw [E.out]; rfl, hb⟩

theorem nd_no {y m d : Nat} (h : dateOkB y m d = false) : (0 : Int) = dnV y m d ∧ false = dateOkB y m d := by unfold dnV; rw [h]; exact ⟨rfl, rfl⟩
theorem nd_yes {y m d s : Nat} (h : dateOkB y m d = true) (hs : dayNo y m d = s) : (s : Int) = dnV y m d ∧ true = dateOkB y m d := by unfold dnV; rw [h, hs]; exact ⟨rfl, rfl⟩
theorem year_more {q r d M : Nat} (hq : 2000 ≤ q) (hr : r = yAcc (q - 2000) + (d - 1)) (hM : M = if q % 4 = 0 then 366 else 365) : r + M = yAcc (q + 1 - 2000) + (d - 1) := by
  have := yAcc_next hq
  have h2 := mAcc_full (leapB q)
  rw [show q + 1 - 2000 = q - 2000 + 1 by omega, this, h2, hr, hM]
  unfold leapB
  by_cases h : q % 4 = 0
  · rw [decide_eq_true h, if_pos h, if_pos rfl]; omega
  · rw [decide_eq_false h, if_neg h, if_neg (by simp)]; omega
set_option maxRecDepth 100000 in
set_option maxHeartbeats 2000000 in
theorem s_l02Number (y m d : Nat) (w : World) (hd : d ≤ 4611686018427387904) :
    Calls Tryz.prog 27 #[.int .i64 y, .int .i64 m, .int .i64 d] w fun e w' => e = .returned (.tuple #[.int .i64 (dnV y m d), .bool (dateOkB y m d)]) ∧ Below w.heap.size w w' := by
  go_enter Tryz.func27, Tryz.ntmps27
  go_wp2_with fail
  refine (s_l00In _ _ _ _).mono ?_
  rintro e w' ⟨rfl, rfl⟩
  rcases hy : inB (y : Int) 2000 2099 with _ | _
  · have E : Hid (dateOkB y m d = false) := Lib.hid (by unfold dateOkB; rw [hy]; rfl)
    clear hy
    go_wp2
    go_ret2
    exact ⟨ret_ib (nd_no E.out), Below.refl _ _⟩
  · have HY := Lib.hid hy; clear hy
    go_wp2_with fail
    refine (s_l00In _ _ _ _).mono ?_
    rintro e w' ⟨rfl, rfl⟩
    rcases hm : inB (m : Int) 1 12 with _ | _
    · have E : Hid (dateOkB y m d = false) := Lib.hid (by unfold dateOkB; rw [hm, Bool.false_and, Bool.and_false])
      clear hm
      go_wp2
      go_ret2
      exact ⟨ret_ib (nd_no E.out), Below.refl _ _⟩
    · have HM := Lib.hid hm
      have hmm := inB_spec hm
      clear hm
      go_wp2_with fail
      refine (s_l02Length y m _ (by omega) (by omega)).mono ?_
      rintro e w1 ⟨rfl, hb⟩
      go_wp2_with fail
      refine (s_l00In _ _ _ _).mono ?_
      rintro e w' ⟨rfl, rfl⟩
      rcases hdd : inB (d : Int) 1 (lenB (leapB y) m : Nat) with _ | _
      · have E : Hid (dateOkB y m d = false) := Lib.hid (by unfold dateOkB; rw [hdd, Bool.and_false, Bool.and_false])
        clear hdd
        go_wp2
        go_ret2
        exact ⟨ret_ib (nd_no E.out), hb⟩
      · have E : Hid (dateOkB y m d = true) := Lib.hid (by unfold dateOkB; rw [HY.out, HM.out, hdd]; rfl)
        have hok := dateOkB_iff.1 E.out
        have hd31 := hok.d31
        have hd0 := hok.d0
        have hy0 := hok.y0
        have hy1 := hok.y1
        have hm0 := hok.m0
        have hm1 := hok.m1
        have e0 : (d : Int) - 1 = ((d - 1 : Nat) : Int) := by omega
        have HB := Lib.hid hb
        clear hdd hok hb
        go_wp2
        go_loopw [8, 9] (fun v i wr => ∃ q r : Nat, v = .int .i64 r ∧ i = .int .i64 q ∧ 2000 ≤ q ∧ q ≤ y ∧ r = yAcc (q - 2000) + (d - 1) ∧ Below w.heap.size w wr) (fun _ i _ => y - (intOf i).toNat)
        case atStart => exact ⟨2000, d - 1, by first | rfl | go_num, rfl, by omega, by omega, by simp [yAcc], HB.out⟩
        case round =>
          obtain ⟨q, r, rfl, rfl, hq0, hq1, hrel, hb⟩ := hrel
          have ht := tmod4 q
          have hr : r ≤ 40000 := by rw [hrel]; unfold yAcc; omega
          by_cases hlt : q < y
          · by_cases h4 : q % 4 = 0
            · have HN := Lib.hid (year_more (M := 366) hq0 hrel (by rw [if_pos h4]))
              rw [h4] at ht
              clear hrel
              go_wp2
              first | (refine ⟨⟨q + 1, r + 366, by go_num, by go_num, by omega, by omega, HN.out, hb⟩, ?_⟩; (simp [intOf]; omega)) | (go_roundw; (case rel => first | exact ⟨q + 1, r + 366, by go_num, by go_num, by omega, by omega, HN.out, hb⟩ | ((try refine ⟨trivial, ?_⟩); (repeat apply Exists.intro); exact ⟨⟨q + 1, r + 366, by go_num, by go_num, by omega, by omega, HN.out, hb⟩, rfl⟩)); (case measure => (simp [intOf]; omega)))
            · have HN := Lib.hid (year_more (M := 365) hq0 hrel (by rw [if_neg h4]))
              have hq : (Int.tmod (q : Int) 4 == 0) = false := by rw [ht, beq_eq_false_iff_ne]; omega
              clear hrel ht
              go_wp2
              first | (refine ⟨⟨q + 1, r + 365, by go_num, by go_num, by omega, by omega, HN.out, hb⟩, ?_⟩; (simp [intOf]; omega)) | (go_roundw; (case rel => first | exact ⟨q + 1, r + 365, by go_num, by go_num, by omega, by omega, HN.out, hb⟩ | ((try refine ⟨trivial, ?_⟩); (repeat apply Exists.intro); exact ⟨⟨q + 1, r + 365, by go_num, by go_num, by omega, by omega, HN.out, hb⟩, rfl⟩)); (case measure => (simp [intOf]; omega)))
          · obtain rfl : q = y := by omega
            have HR := Lib.hid hrel
            clear hrel hlt ht
            go_wp2
            go_loopw [8, 10] (fun v i wr => ∃ p s : Nat, v = .int .i64 s ∧ i = .int .i64 p ∧ 1 ≤ p ∧ p ≤ m ∧ s = r + mAcc (leapB q) (p - 1) ∧ Below w.heap.size w wr) (fun _ i _ => m - (intOf i).toNat)
            case atStart => exact ⟨1, r, rfl, rfl, by omega, by omega, rfl, hb⟩
            case round =>
              obtain ⟨p, s, rfl, rfl, hp0, hp1, hrel, hb⟩ := hrel
              have hs : s ≤ 41000 := by
                have h1 := mAcc_mono (leapB q) (show p - 1 ≤ 12 by omega)
                have h2 := mAcc_full (leapB q)
                have : mAcc (leapB q) 12 ≤ 366 := by rw [h2]; split <;> omega
                omega
              by_cases hlt : p < m
              · have h31 := (lenB_range (leapB q) p).2
                have HN : Hid (s + lenB (leapB q) p = r + mAcc (leapB q) (p + 1 - 1)) := Lib.hid (by rw [Nat.add_sub_cancel, mAcc_step _ hp0, hrel]; omega)
                clear hrel
                go_wp2_with fail
                refine (s_l02Length q p _ (by omega) (by omega)).mono ?_
                rintro e w' ⟨rfl, hb2⟩
                have hbN := hb.trans (hb2.mono hb.size)
                clear hb hb2
                obtain ⟨M, hMM⟩ : ∃ M, lenB (leapB q) p = M := ⟨_, rfl⟩
                rw [hMM] at h31 HN
                simp only [hMM]
                clear hMM
                go_wp2
                first | (refine ⟨⟨p + 1, s + M, by go_num, by go_num, by omega, by omega, HN.out, hbN⟩, ?_⟩; (simp [intOf]; omega)) | (go_roundw; (case rel => first | exact ⟨p + 1, s + M, by go_num, by go_num, by omega, by omega, HN.out, hbN⟩ | ((try refine ⟨trivial, ?_⟩); (repeat apply Exists.intro); exact ⟨⟨p + 1, s + M, by go_num, by go_num, by omega, by omega, HN.out, hbN⟩, rfl⟩)); (case measure => (simp [intOf]; omega)))
              · obtain rfl : p = m := by omega
                have HD : Hid (dayNo q p d = s) := Lib.hid (by unfold dayNo; rw [hrel, HR.out]; omega)
                clear hrel hlt
                go_wp2
                go_ret2
                exact ⟨ret_ib (nd_yes E.out HD.out), hb⟩

end Go.Proofs.YtdkpgcnjlamcbaaGreatDoor
