/- Reports: lines, and whether they are a report. -/
import Derived.Test.YtlnhjjcficoldaaRows
import Derived.Test.YtlnhjjcficoldaaMem
import Derived.Test.YtlnhjjcficoldaaBasic
import Derived.Test.YtlnhjjcficoldaaConvS
namespace Go.Proofs.Ytlnhjjcficoldaa
set_option linter.unusedVariables false
set_option linter.unusedSimpArgs false
set_option linter.unusedSectionVars false
open Go.RowKit

def chB (c : UInt8) : Bool := inB (c.toNat : Int) 32 126
def chsB (l : List UInt8) : Bool := l.all chB
def lineB (s : ByteArray) : Bool := chsB s.data.toList && decide ((s.size : Int) ≤ 100)
def linesB (ss : List ByteArray) : Bool := ss.all lineB
def repB (ss : List ByteArray) : Bool := linesB ss && decide ((ss.length : Int) ≤ 200)

theorem chsB_cons (c : UInt8) (r : List UInt8) : chsB (c :: r) = (chB c && chsB r) := rfl
theorem linesB_cons (s : ByteArray) (r : List ByteArray) : linesB (s :: r) = (lineB s && linesB r) := rfl
theorem byte_wrap (c : UInt8) : wrap64 (c.toNat : Int) = c.toNat := IntWalk.wrap64_in _ (by have := c.toNat_lt; omega)
theorem get_byte (s : ByteArray) (k : Nat) (h : k < s.size) : s.data.toList[k]? = some s[k] := by
  rw [List.getElem?_eq_getElem (by simpa using h)]; rfl

set_option maxHeartbeats 400000 in
theorem i_isLine (s : ByteArray) (w : World) (hs : s.size ≤ maxLen) :
    Calls Try.prog 18 #[.string s] w fun e w' => e = .returned (.bool (lineB s)) ∧ w = w' := by
  unfold maxLen at hs
  go_enter Try.func18, Try.ntmps18
  go_wp2_with fail
  go_loop [3] (fun i => ∃ k : Nat, k ≤ s.size ∧ i = .int .i64 k ∧ Hid (chsB s.data.toList = chsB (s.data.toList.drop k))) (fun i => s.size - (intOf i).toNat)
  case atStart => exact ⟨0, Nat.zero_le _, rfl, Lib.hid rfl⟩
  case round =>
    obtain ⟨k, hk, rfl, HH⟩ := hrel
    by_cases hlt : k < s.size
    · have HD := Lib.hid (drop_of_get (get_byte s k hlt))
      go_wp2_with fail
      rw [byte_wrap]
      refine (i_within _ _ _ _).mono ?_
      rintro e w' ⟨rfl, rfl⟩
      rcases hb : inB (s[k].toNat : Int) 32 126 with _ | _
      · have HB := Lib.hid hb; clear hb
        go_wp2
        go_ret
        exact ⟨ret_bool (by unfold lineB; rw [HH.out, HD.out, chsB_cons, show chB s[k] = false from HB.out]; rfl), rfl⟩
      · have HB := Lib.hid hb; clear hb
        go_wp2
        first | (refine ⟨⟨k + 1, by omega, by go_num, Lib.hid (by rw [HH.out, HD.out, chsB_cons, show chB s[k] = true from HB.out]; rfl)⟩, ?_⟩; (simp [intOf]; omega)) | (go_round; (case rel => first | exact ⟨k + 1, by omega, by go_num, Lib.hid (by rw [HH.out, HD.out, chsB_cons, show chB s[k] = true from HB.out]; rfl)⟩ | ((try refine ⟨trivial, ?_⟩); (repeat apply Exists.intro); exact ⟨⟨k + 1, by omega, by go_num, Lib.hid (by rw [HH.out, HD.out, chsB_cons, show chB s[k] = true from HB.out]; rfl)⟩, rfl⟩)); (case measure => (simp [intOf]; omega)))
    · go_wp2_with fail
      refine (i_few _ _ _ (by omega) (by omega)).mono ?_
      rintro e w' ⟨rfl, rfl⟩
      go_wp2
      go_ret
      exact ⟨ret_bool (by unfold lineB; rw [HH.out, List.drop_of_length_le (by simp; omega)]; rfl), rfl⟩

set_option maxHeartbeats 400000 in
theorem s_l30Line (s : ByteArray) (w : World) (hs : s.size ≤ maxLen) :
    Calls Try.prog 15 #[.string s] w fun e w' => e = .returned (.bool (lineB s)) ∧ w = w' := by
  unfold maxLen at hs
  go_enter Try.func15, Try.ntmps15
  go_wp2_with fail
  go_loop [3] (fun i => ∃ k : Nat, k ≤ s.size ∧ i = .int .i64 k ∧ Hid (chsB s.data.toList = chsB (s.data.toList.drop k))) (fun i => s.size - (intOf i).toNat)
  case atStart => exact ⟨0, Nat.zero_le _, rfl, Lib.hid rfl⟩
  case round =>
    obtain ⟨k, hk, rfl, HH⟩ := hrel
    by_cases hlt : k < s.size
    · have HD := Lib.hid (drop_of_get (get_byte s k hlt))
      by_cases h1 : (s[k].toNat : Int) < 32
      · go_wp2
        go_ret
        exact ⟨ret_bool (by unfold lineB; rw [HH.out, HD.out, chsB_cons, show chB s[k] = false from inB_lo h1]; rfl), rfl⟩
      · by_cases h2 : (126 : Int) < s[k].toNat
        · go_wp2
          go_ret
          exact ⟨ret_bool (by unfold lineB; rw [HH.out, HD.out, chsB_cons, show chB s[k] = false from inB_hi h2]; rfl), rfl⟩
        · have HB : Hid (chB s[k] = true) := Lib.hid (inB_true (by omega) (by omega))
          go_wp2
          first | (refine ⟨⟨k + 1, by omega, by go_num, Lib.hid (by rw [HH.out, HD.out, chsB_cons, HB.out]; rfl)⟩, ?_⟩; (simp [intOf]; omega)) | (go_round; (case rel => first | exact ⟨k + 1, by omega, by go_num, Lib.hid (by rw [HH.out, HD.out, chsB_cons, HB.out]; rfl)⟩ | ((try refine ⟨trivial, ?_⟩); (repeat apply Exists.intro); exact ⟨⟨k + 1, by omega, by go_num, Lib.hid (by rw [HH.out, HD.out, chsB_cons, HB.out]; rfl)⟩, rfl⟩)); (case measure => (simp [intOf]; omega)))
    · go_wp2
      go_ret
      exact ⟨ret_bool (by unfold lineB; rw [HH.out, List.drop_of_length_le (by simp; omega)]; rfl), rfl⟩

set_option maxHeartbeats 400000 in
theorem s_l30Ok (A : Option Addr) (n c : Nat) (ss : List ByteArray) (w : World) (hr : Rd strE w A n ss) (hn : n ≤ maxLen) (hs : ∀ s ∈ ss, s.size ≤ maxLen) :
    Calls Try.prog 13 #[.slice A n c] w fun e w' => e = .returned (.bool (repB ss)) ∧ w = w' := by
  unfold maxLen at hn
  have Hl := Lib.hid hr.1
  have HS := Lib.hid hs; clear hs
  go_enter Try.func13, Try.ntmps13
  go_wp2_with fail
  go_loop [3] (fun i => ∃ k : Nat, k ≤ n ∧ i = .int .i64 k ∧ Hid (linesB ss = linesB (ss.drop k))) (fun i => n - (intOf i).toNat)
  case atStart => exact ⟨0, Nat.zero_le _, rfl, Lib.hid rfl⟩
  case round =>
    obtain ⟨k, hk, rfl, HH⟩ := hrel
    by_cases hlt : k < n
    · obtain ⟨b, off, s, rfl, hks, hc⟩ := hr.get hlt
      have hc0 := hc 0 (.string s) rfl
      simp only [strE, Nat.mul_one, Nat.add_zero] at hc0
      have hz := HS.out s (mem_of_get hks)
      have HD := Lib.hid (drop_of_get hks); clear hks hc
      go_wp2_with fail
      refine (s_l30Line s _ hz).mono ?_
      rintro e w' ⟨rfl, rfl⟩
      rcases hb : lineB s with _ | _
      · have HB := Lib.hid hb; clear hb
        go_wp2
        go_ret
        exact ⟨ret_bool (by unfold repB; rw [HH.out, HD.out, linesB_cons, HB.out]; rfl), rfl⟩
      · have HB := Lib.hid hb; clear hb
        go_wp2
        first | (refine ⟨⟨k + 1, by omega, by go_num, Lib.hid (by rw [HH.out, HD.out, linesB_cons, HB.out]; rfl)⟩, ?_⟩; (simp [intOf]; omega)) | (go_round; (case rel => first | exact ⟨k + 1, by omega, by go_num, Lib.hid (by rw [HH.out, HD.out, linesB_cons, HB.out]; rfl)⟩ | ((try refine ⟨trivial, ?_⟩); (repeat apply Exists.intro); exact ⟨⟨k + 1, by omega, by go_num, Lib.hid (by rw [HH.out, HD.out, linesB_cons, HB.out]; rfl)⟩, rfl⟩)); (case measure => (simp [intOf]; omega)))
    · go_wp2
      go_ret
      exact ⟨ret_bool (by unfold repB; rw [HH.out, List.drop_of_length_le (by have := Hl.out; omega), Hl.out]; rfl), rfl⟩

theorem i_ValidReport_1 (s : ByteArray) (w : World) (hs : s.size ≤ maxLen) :
    Calls Try.prog 24 #[.string s] w fun e w' => e = .returned (.bool (!lineB s)) ∧ w = w' := by
  go_enter Try.func24, Try.ntmps24
  go_wp2_with fail
  refine (i_isLine s _ hs).mono ?_
  rintro e w' ⟨rfl, rfl⟩
  go_wp2
  go_ret
  exact ⟨rfl, rfl⟩

/-- the first line that is none, from a place on; -1 if there is none -/
def badAt (ss : List ByteArray) (k : Nat) : Int := match ss with
  | [] => -1
  | s :: r => if lineB s then badAt r (k + 1) else k
theorem badAt_neg (ss : List ByteArray) (k : Nat) : (0 ≤ badAt ss k) = (linesB ss = false) := by
  induction ss generalizing k with
  | nil => simp [badAt, linesB]
  | cons s r ih =>
    rw [linesB_cons]
    unfold badAt
    rcases h : lineB s with _ | _
    · simp
    · simpa using ih (k + 1)
set_option maxHeartbeats 400000 in
theorem index_bad (A : Option Addr) (n c : Nat) (ss : List ByteArray) (w : World) (hr : Rd strE w A n ss) (hn : n ≤ maxLen) (hs : ∀ s ∈ ss, s.size ≤ maxLen) :
    Calls Try.prog 26 #[.slice A n c, .func (.func 24) #[] #[]] w fun e w' => e = .returned (.int .i64 (badAt ss 0)) ∧ w = w' := by
  unfold maxLen at hn
  have Hl := Lib.hid hr.1
  have HS := Lib.hid hs; clear hs
  go_enter Try.func26, Try.ntmps26
  go_wp2_with fail
  go_loop [8] (fun i => ∃ k : Nat, k ≤ n ∧ i = .int .i64 k ∧ Hid (badAt ss 0 = badAt (ss.drop k) k)) (fun i => n - (intOf i).toNat)
  case atStart => exact ⟨0, Nat.zero_le _, rfl, Lib.hid rfl⟩
  case round =>
    obtain ⟨k, hk, rfl, HH⟩ := hrel
    by_cases hlt : k < n
    · obtain ⟨b, off, s, rfl, hks, hc⟩ := hr.get hlt
      have hc0 := hc 0 (.string s) rfl
      simp only [strE, Nat.mul_one, Nat.add_zero] at hc0
      have hz := HS.out s (mem_of_get hks)
      have HD := Lib.hid (drop_of_get hks); clear hks hc
      go_wp2_with fail
      refine (i_ValidReport_1 s _ hz).mono ?_
      rintro e w' ⟨rfl, rfl⟩
      rcases hb : lineB s with _ | _
      · have HB := Lib.hid hb; clear hb
        go_wp2
        go_ret
        exact ⟨ret_int (by rw [HH.out, HD.out, badAt, HB.out]; rfl), rfl⟩
      · have HB := Lib.hid hb; clear hb
        go_wp2
        first | (refine ⟨⟨k + 1, by omega, by go_num, Lib.hid (by rw [HH.out, HD.out, badAt, HB.out]; rfl)⟩, ?_⟩; (simp [intOf]; omega)) | (go_round; (case rel => first | exact ⟨k + 1, by omega, by go_num, Lib.hid (by rw [HH.out, HD.out, badAt, HB.out]; rfl)⟩ | ((try refine ⟨trivial, ?_⟩); (repeat apply Exists.intro); exact ⟨⟨k + 1, by omega, by go_num, Lib.hid (by rw [HH.out, HD.out, badAt, HB.out]; rfl)⟩, rfl⟩)); (case measure => (simp [intOf]; omega)))
    · go_wp2
      go_ret
      exact ⟨ret_int (by rw [HH.out, List.drop_of_length_le (by have := Hl.out; omega)]; rfl), rfl⟩

theorem contains_bad (A : Option Addr) (n c : Nat) (ss : List ByteArray) (w : World) (hr : Rd strE w A n ss) (hn : n ≤ maxLen) (hs : ∀ s ∈ ss, s.size ≤ maxLen) :
    Calls Try.prog 23 #[.slice A n c, .func (.func 24) #[] #[]] w fun e w' => e = .returned (.bool (!linesB ss)) ∧ w = w' := by
  go_enter Try.func23, Try.ntmps23
  go_wp2_with fail
  refine (index_bad A n c ss _ hr hn hs).mono ?_
  rintro e w' ⟨rfl, rfl⟩
  go_wp2
  go_ret
  refine ⟨ret_bool ?_, rfl⟩
  rw [Bool.eq_iff_iff]
  simpa using iff_of_eq (badAt_neg ss 0)

set_option maxHeartbeats 400000 in
theorem i_ValidReport (A : Option Addr) (n c : Nat) (ss : List ByteArray) (w : World) (hr : Rd strE w A n ss) (hn : n ≤ maxLen) (hs : ∀ s ∈ ss, s.size ≤ maxLen) :
    Calls Try.prog 16 #[.slice A n c] w fun e w' => e = .returned (.bool (repB ss)) ∧ w = w' := by
  have hn' := hn
  unfold maxLen at hn'
  have Hl := Lib.hid hr.1
  by_cases h2 : (n : Int) ≤ 200
  · go_enter Try.func16, Try.ntmps16
    go_wp2_with fail
    refine (i_few _ _ _ (by omega) (by omega)).mono ?_
    rintro e w' ⟨rfl, rfl⟩
    go_wp2_with fail
    refine (contains_bad A n c ss _ hr hn hs).mono ?_
    rintro e w' ⟨rfl, rfl⟩
    go_wp2
    go_ret
    exact ⟨ret_bool (by unfold repB; rw [Hl.out, decide_eq_true h2]; simp), rfl⟩
  · go_enter Try.func16, Try.ntmps16
    go_wp2_with fail
    refine (i_few _ _ _ (by omega) (by omega)).mono ?_
    rintro e w' ⟨rfl, rfl⟩
    go_wp2
    go_ret
    exact ⟨ret_bool (by unfold repB; rw [Hl.out, decide_eq_false (by omega)]; simp), rfl⟩

end Go.Proofs.Ytlnhjjcficoldaa
