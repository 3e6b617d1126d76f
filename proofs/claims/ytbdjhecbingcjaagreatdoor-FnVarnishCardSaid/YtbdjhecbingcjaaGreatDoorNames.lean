/- Names: a small letter, then small letters and digits, at most ten. -/
import Derived.Test.YtbdjhecbingcjaaGreatDoorRows
import Derived.Test.YtbdjhecbingcjaaGreatDoorMem
import Derived.Test.YtbdjhecbingcjaaGreatDoorBasic
import Derived.Test.YtbdjhecbingcjaaGreatDoorConvS
namespace Go.Proofs.YtbdjhecbingcjaaGreatDoor
set_option linter.unusedVariables false
set_option linter.unusedSimpArgs false
set_option linter.unusedSectionVars false
open Go.RowKit

def digB (c : UInt8) : Bool := inB (c.toNat : Int) 48 57
def smallB (c : UInt8) : Bool := inB (c.toNat : Int) 97 122
def restB (l : List UInt8) : Bool := l.all fun c => smallB c || digB c
/-- from place k on all is as a name has it -/
def fromB : Nat → List UInt8 → Bool
  | _, [] => true
  | k, c :: r => (smallB c || (decide (0 < k) && digB c)) && fromB (k + 1) r
theorem fromB_succ (k : Nat) (l : List UInt8) : fromB (k + 1) l = restB l := by
  induction l generalizing k with
  | nil => rfl
  | cons c r ih => rw [fromB, ih (k + 1)]; simp [restB]
def nameB (s : ByteArray) : Bool := fromB 0 s.data.toList && (!s.toList.isEmpty && decide ((s.size : Int) ≤ 10))
theorem byte_at (s : ByteArray) (k : Nat) (h : k < s.size) : s.data.toList[k]? = some s[k] := by
  rw [List.getElem?_eq_getElem (by simpa using h)]; rfl

theorem i_isDigit (c : UInt8) (w : World) :
    Calls Tryz.prog 57 #[.int .u8 c.toNat] w fun e w' => e = .returned (.bool (digB c)) ∧ w = w' := by
  by_cases h1 : (48 : Int) ≤ c.toNat
  · by_cases h2 : (c.toNat : Int) ≤ 57
    · go_enter Tryz.func57, Tryz.ntmps57
      go_wp2
      go_ret
      exact ⟨ret_bool (inB_true h1 h2).symm, rfl⟩
    · go_enter Tryz.func57, Tryz.ntmps57
      go_wp2
      go_ret
      exact ⟨ret_bool (inB_hi (by omega)).symm, rfl⟩
  · go_enter Tryz.func57, Tryz.ntmps57
    go_wp2
    go_ret
    exact ⟨ret_bool (inB_lo (by omega)).symm, rfl⟩

theorem s_l01Digit (c : UInt8) (w : World) :
    Calls Tryz.prog 77 #[.int .u8 c.toNat] w fun e w' => e = .returned (.bool (digB c)) ∧ w = w' := by
  by_cases h1 : (48 : Int) ≤ c.toNat
  · by_cases h2 : (c.toNat : Int) ≤ 57
    · go_enter Tryz.func77, Tryz.ntmps77
      go_wp2
      go_ret
      exact ⟨ret_bool (inB_true h1 h2).symm, rfl⟩
    · go_enter Tryz.func77, Tryz.ntmps77
      go_wp2
      go_ret
      exact ⟨ret_bool (inB_hi (by omega)).symm, rfl⟩
  · go_enter Tryz.func77, Tryz.ntmps77
    go_wp2
    go_ret
    exact ⟨ret_bool (inB_lo (by omega)).symm, rfl⟩

theorem s_l01Small (c : UInt8) (w : World) :
    Calls Tryz.prog 76 #[.int .u8 c.toNat] w fun e w' => e = .returned (.bool (smallB c)) ∧ w = w' := by
  by_cases h1 : (97 : Int) ≤ c.toNat
  · by_cases h2 : (c.toNat : Int) ≤ 122
    · go_enter Tryz.func76, Tryz.ntmps76
      go_wp2
      go_ret
      exact ⟨ret_bool (inB_true h1 h2).symm, rfl⟩
    · go_enter Tryz.func76, Tryz.ntmps76
      go_wp2
      go_ret
      exact ⟨ret_bool (inB_hi (by omega)).symm, rfl⟩
  · go_enter Tryz.func76, Tryz.ntmps76
    go_wp2
    go_ret
    exact ⟨ret_bool (inB_lo (by omega)).symm, rfl⟩

set_option maxHeartbeats 1000000 in
theorem i_IsName (s : ByteArray) (w : World) (hs : s.size ≤ maxLen) :
    Calls Tryz.prog 47 #[.string s] w fun e w' => e = .returned (.bool (nameB s)) ∧ w = w' := by
  unfold maxLen at hs
  go_enter Tryz.func47, Tryz.ntmps47
  go_wp2_with fail
  go_loop [3] (fun i => ∃ k : Nat, k ≤ s.size ∧ i = .int .i64 k ∧ Hid (fromB 0 s.data.toList = fromB k (s.data.toList.drop k))) (fun i => s.size - (intOf i).toNat)
  case atStart => exact ⟨0, Nat.zero_le _, rfl, Lib.hid rfl⟩
  case round =>
    obtain ⟨k, hk, rfl, HH⟩ := hrel
    by_cases hlt : k < s.size
    · have HD := Lib.hid (drop_of_get (byte_at s k hlt))
      by_cases h1 : (97 : Int) ≤ s[k].toNat
      · by_cases h2 : (s[k].toNat : Int) ≤ 122
        · have HS : Hid (smallB s[k] = true) := Lib.hid (inB_true h1 h2)
          go_wp2
          first | (refine ⟨⟨k + 1, by omega, by go_num, Lib.hid (by rw [HH.out, HD.out, fromB, HS.out]; rfl)⟩, ?_⟩; (simp [intOf]; omega)) | (go_round; (case rel => first | exact ⟨k + 1, by omega, by go_num, Lib.hid (by rw [HH.out, HD.out, fromB, HS.out]; rfl)⟩ | ((try refine ⟨trivial, ?_⟩); (repeat apply Exists.intro); exact ⟨⟨k + 1, by omega, by go_num, Lib.hid (by rw [HH.out, HD.out, fromB, HS.out]; rfl)⟩, rfl⟩)); (case measure => (simp [intOf]; omega)))
        · have HS : Hid (smallB s[k] = false) := Lib.hid (inB_hi (by omega))
          by_cases hk0 : k = 0
          · subst hk0
            go_wp2
            go_ret
            exact ⟨ret_bool (by unfold nameB; rw [HH.out, HD.out, fromB, HS.out]; rfl), rfl⟩
          · have hk1 : ((k : Int) == 0) = false := by rw [beq_eq_false_iff_ne]; omega
            have HK : Hid (0 < k) := Lib.hid (by omega)
            go_wp2_with fail
            refine (i_isDigit s[k] _).mono ?_
            rintro e w' ⟨rfl, rfl⟩
            rcases hd : digB s[k] with _ | _
            · have HDg := Lib.hid hd; clear hd
              go_wp2
              go_ret
              exact ⟨ret_bool (by unfold nameB; rw [HH.out, HD.out, fromB, HS.out, HDg.out]; simp), rfl⟩
            · have HDg := Lib.hid hd; clear hd
              go_wp2
              first | (refine ⟨⟨k + 1, by omega, by go_num, Lib.hid (by rw [HH.out, HD.out, fromB, HS.out, HDg.out, decide_eq_true HK.out]; rfl)⟩, ?_⟩; (simp [intOf]; omega)) | (go_round; (case rel => first | exact ⟨k + 1, by omega, by go_num, Lib.hid (by rw [HH.out, HD.out, fromB, HS.out, HDg.out, decide_eq_true HK.out]; rfl)⟩ | ((try refine ⟨trivial, ?_⟩); (repeat apply Exists.intro); exact ⟨⟨k + 1, by omega, by go_num, Lib.hid (by rw [HH.out, HD.out, fromB, HS.out, HDg.out, decide_eq_true HK.out]; rfl)⟩, rfl⟩)); (case measure => (simp [intOf]; omega)))
      · have HS : Hid (smallB s[k] = false) := Lib.hid (inB_lo (by omega))
        by_cases hk0 : k = 0
        · subst hk0
          go_wp2
          go_ret
          exact ⟨ret_bool (by unfold nameB; rw [HH.out, HD.out, fromB, HS.out]; rfl), rfl⟩
        · have hk1 : ((k : Int) == 0) = false := by rw [beq_eq_false_iff_ne]; omega
          have HK : Hid (0 < k) := Lib.hid (by omega)
          go_wp2_with fail
          refine (i_isDigit s[k] _).mono ?_
          rintro e w' ⟨rfl, rfl⟩
          rcases hd : digB s[k] with _ | _
          · have HDg := Lib.hid hd; clear hd
            go_wp2
            go_ret
            exact ⟨ret_bool (by unfold nameB; rw [HH.out, HD.out, fromB, HS.out, HDg.out]; simp), rfl⟩
          · have HDg := Lib.hid hd; clear hd
            go_wp2
            first | (refine ⟨⟨k + 1, by omega, by go_num, Lib.hid (by rw [HH.out, HD.out, fromB, HS.out, HDg.out, decide_eq_true HK.out]; rfl)⟩, ?_⟩; (simp [intOf]; omega)) | (go_round; (case rel => first | exact ⟨k + 1, by omega, by go_num, Lib.hid (by rw [HH.out, HD.out, fromB, HS.out, HDg.out, decide_eq_true HK.out]; rfl)⟩ | ((try refine ⟨trivial, ?_⟩); (repeat apply Exists.intro); exact ⟨⟨k + 1, by omega, by go_num, Lib.hid (by rw [HH.out, HD.out, fromB, HS.out, HDg.out, decide_eq_true HK.out]; rfl)⟩, rfl⟩)); (case measure => (simp [intOf]; omega)))
    · have HE : Hid (fromB 0 s.data.toList = true) := Lib.hid (by rw [HH.out, List.drop_of_length_le (by simp; omega)]; cases k <;> rfl)
      rcases he : s.toList.isEmpty with _ | _
      · have HN := Lib.hid he
        go_wp2_with fail
        refine (i_few _ _ _ (by omega) (by omega)).mono ?_
        rintro e w' ⟨rfl, rfl⟩
        go_wp2
        go_ret
        exact ⟨ret_bool (by unfold nameB; rw [HE.out, HN.out]; rfl), rfl⟩
      · have HN := Lib.hid he
        go_wp2
        go_ret
        exact ⟨ret_bool (by unfold nameB; rw [HN.out]; simp), rfl⟩

theorem isEmpty_size (s : ByteArray) : s.toList.isEmpty = decide (s.size = 0) := by
  have h : s.size = s.data.toList.length := ba_size s
  rw [ByteArray.toList_eq, h]
  cases s.data.toList <;> simp
theorem nameB_first (s : ByteArray) (h : 0 < s.size) : nameB s = (smallB s[0] && restB s.data.toList && decide ((s.size : Int) ≤ 10)) := by
  unfold nameB
  rw [isEmpty_size, decide_eq_false (by omega)]
  have hd := drop_of_get (byte_at s 0 h)
  rw [List.drop_zero] at hd
  rw [hd, fromB, fromB_succ]
  simp only [restB, List.all_cons, Bool.not_false, Bool.true_and, Nat.lt_irrefl, decide_false, Bool.false_and, Bool.or_false]
  cases smallB s[0] <;> simp
set_option maxHeartbeats 1000000 in
theorem s_l01Name (s : ByteArray) (w : World) (hs : s.size ≤ maxLen) :
    Calls Tryz.prog 66 #[.string s] w fun e w' => e = .returned (.bool (nameB s)) ∧ w = w' := by
  unfold maxLen at hs
  by_cases h0 : 0 < s.size
  · have E := Lib.hid (nameB_first s h0)
    have he : s.toList.isEmpty = false := by rw [isEmpty_size]; exact decide_eq_false (by omega)
    by_cases h10 : (10 : Int) < s.size
    · have HT : Hid (decide ((s.size : Int) ≤ 10) = false) := Lib.hid (decide_eq_false (by omega))
      go_enter Tryz.func66, Tryz.ntmps66
      go_wp2
      go_ret
      exact ⟨ret_bool (by rw [E.out, HT.out]; simp), rfl⟩
    · have HT : Hid (decide ((s.size : Int) ≤ 10) = true) := Lib.hid (decide_eq_true (by omega))
      go_enter Tryz.func66, Tryz.ntmps66
      go_wp2_with fail
      refine (s_l01Small s[0] _).mono ?_
      rintro e w' ⟨rfl, rfl⟩
      rcases hf : smallB s[0] with _ | _
      · have HF := Lib.hid hf; clear hf
        go_wp2
        go_ret
        exact ⟨ret_bool (by rw [E.out, HF.out]; rfl), rfl⟩
      · have HF := Lib.hid hf; clear hf
        go_wp2_with fail
        go_loop [3] (fun i => ∃ k : Nat, k ≤ s.size ∧ i = .int .i64 k ∧ Hid (restB s.data.toList = restB (s.data.toList.drop k))) (fun i => s.size - (intOf i).toNat)
        case atStart => exact ⟨0, Nat.zero_le _, rfl, Lib.hid rfl⟩
        case round =>
          obtain ⟨k, hk, rfl, HH⟩ := hrel
          by_cases hlt : k < s.size
          · have HD := Lib.hid (drop_of_get (byte_at s k hlt))
            go_wp2_with fail
            refine (s_l01Small s[k] _).mono ?_
            rintro e w' ⟨rfl, rfl⟩
            rcases hsm : smallB s[k] with _ | _
            · have HS := Lib.hid hsm; clear hsm
              go_wp2_with fail
              refine (s_l01Digit s[k] _).mono ?_
              rintro e w' ⟨rfl, rfl⟩
              rcases hd : digB s[k] with _ | _
              · have HDg := Lib.hid hd; clear hd
                go_wp2
                go_ret
                exact ⟨ret_bool (by rw [E.out, HH.out, HD.out, restB, List.all_cons, HS.out, HDg.out]; simp), rfl⟩
              · have HDg := Lib.hid hd; clear hd
                go_wp2
                first | (refine ⟨⟨k + 1, by omega, by go_num, Lib.hid (by rw [HH.out, HD.out, restB, List.all_cons, HS.out, HDg.out]; rfl)⟩, ?_⟩; (simp [intOf]; omega)) | (go_round; (case rel => first | exact ⟨k + 1, by omega, by go_num, Lib.hid (by rw [HH.out, HD.out, restB, List.all_cons, HS.out, HDg.out]; rfl)⟩ | ((try refine ⟨trivial, ?_⟩); (repeat apply Exists.intro); exact ⟨⟨k + 1, by omega, by go_num, Lib.hid (by rw [HH.out, HD.out, restB, List.all_cons, HS.out, HDg.out]; rfl)⟩, rfl⟩)); (case measure => (simp [intOf]; omega)))
            · have HS := Lib.hid hsm; clear hsm
              go_wp2
              first | (refine ⟨⟨k + 1, by omega, by go_num, Lib.hid (by rw [HH.out, HD.out, restB, List.all_cons, HS.out]; rfl)⟩, ?_⟩; (simp [intOf]; omega)) | (go_round; (case rel => first | exact ⟨k + 1, by omega, by go_num, Lib.hid (by rw [HH.out, HD.out, restB, List.all_cons, HS.out]; rfl)⟩ | ((try refine ⟨trivial, ?_⟩); (repeat apply Exists.intro); exact ⟨⟨k + 1, by omega, by go_num, Lib.hid (by rw [HH.out, HD.out, restB, List.all_cons, HS.out]; rfl)⟩, rfl⟩)); (case measure => (simp [intOf]; omega)))
          · go_wp2
            go_ret
            exact ⟨ret_bool (by rw [E.out, HF.out, HT.out, HH.out, List.drop_of_length_le (by simp; omega)]; rfl), rfl⟩
  · have E : Hid (nameB s = false) := Lib.hid (by unfold nameB; rw [isEmpty_size, decide_eq_true (by omega)]; simp)
    have he : s.toList.isEmpty = true := by rw [isEmpty_size]; exact decide_eq_true (by omega)
    go_enter Tryz.func66, Tryz.ntmps66
    go_wp2
    go_ret
    exact ⟨ret_bool (by rw [E.out]), rfl⟩

end Go.Proofs.YtbdjhecbingcjaaGreatDoor
