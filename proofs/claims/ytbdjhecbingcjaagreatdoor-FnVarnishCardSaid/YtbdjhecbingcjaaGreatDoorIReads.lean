/- The program's reading: a number, a list of numbers, a name before it; over the library's contracts. -/
import Derived.Test.YtbdjhecbingcjaaGreatDoorRows
import Derived.Test.YtbdjhecbingcjaaGreatDoorShelf
import Derived.Test.YtbdjhecbingcjaaGreatDoorSNum
import Derived.Test.YtbdjhecbingcjaaGreatDoorLibW
import Derived.Lib.AppendIntMem
import Derived.Lib.AtoiErrMem
namespace Go.Proofs.YtbdjhecbingcjaaGreatDoor
set_option linter.unusedVariables false
set_option linter.unusedSimpArgs false
set_option linter.unusedSectionVars false
open Go.RowKit

theorem i_Decimal (n : Int) (w : World) (h : -9223372036854775808 ≤ n ∧ n ≤ 9223372036854775807) (hL : LibW w) :
    Calls Tryz.prog 50 #[.int .i64 n] w fun e w' => e = .returned (.string (ofL (Lib.itoa n))) ∧ Below w.heap.size w w' := by
  go_enter Tryz.func50, Tryz.ntmps50
  go_wp2_with fail
  refine (Tryz.strconv_FormatInt_10 n h.1 h.2 _ hL.tab).mono ?_
  rintro e w1 ⟨rfl, k, os, rfl⟩
  go_wp2
  go_ret
  exact ⟨rfl, Lib.below_grow _ _ (Nat.le_refl _) _ _⟩

theorem readL_long {s : ByteArray} (h : 18 < (Lib.trimPrefix s.data.toList [45]).length) : numL s.data.toList = none := by
  rw [← read_num]; unfold readL; rw [if_pos h]
theorem readL_short {s : ByteArray} (h : ¬ 18 < (Lib.trimPrefix s.data.toList [45]).length) : numL s.data.toList = (match Lib.parseIntB 64 s.data.toList with | .ok n => if Lib.itoa n = s.data.toList then some n else none | _ => none) := by
  rw [← read_num]; unfold readL; rw [if_neg h]
  rfl
theorem ofL_toList (l : List UInt8) : (ofL l).toList = l := by rw [ByteArray.toList_eq, ofL_data]
set_option maxHeartbeats 1000000 in
theorem i_ReadDecimal (s : ByteArray) (w : World) (hs : s.size ≤ 1048576) (hL : LibW w) :
    Calls Tryz.prog 49 #[.string s] w fun e w' => e = .returned (.tuple #[.int .i64 (numV s), .bool (numOk s)]) ∧ Below w.heap.size w w' := by
  unfold numV numOk
  obtain ⟨tl, htl⟩ : ∃ tl, Lib.trimPrefix s.data.toList [45] = tl := ⟨_, rfl⟩
  have HT := Lib.hid htl
  go_enter Tryz.func49, Tryz.ntmps49
  go_wp2_with fail
  refine (Tryz.strings_TrimPrefix s _ _).mono ?_
  rintro e w1 ⟨rfl, rfl⟩
  try simp only [htl]
  try rw [htl]
  clear htl
  by_cases h18 : 18 < tl.length
  · have E : Hid (numL s.data.toList = none) := Lib.hid (readL_long (by rw [HT.out]; exact h18))
    have h18' : (18 : Int) < (tl.length : Int) := by omega
    clear h18
    go_wp2
    go_ret2
    exact ⟨ret_num (by rw [E.out]; rfl) (by rw [E.out]; rfl), Below.refl _ _⟩
  · have E := Lib.hid (readL_short (s := s) (by rw [HT.out]; exact h18))
    have h18' : ¬ (18 : Int) < (tl.length : Int) := by omega
    clear h18
    cases hp : Lib.parseIntB 64 s.data.toList with
    | ok n =>
      have HP := Lib.hid hp
      have hn := Lib.parseIntB_bounds hp
      clear hp
      go_wp2_with fail
      refine (Tryz.strconv_ParseInt_10_at64_ok s (by omega) n HP.out _).mono ?_
      rintro e w2 ⟨rfl, hw⟩
      have hb : Below w1.heap.size w1 w2 := by
        rcases hw with rfl | ⟨t, rfl⟩
        · exact Below.refl _ _
        · exact Lib.bytesWorld_below _ _ _
      clear hw
      go_wp2_with fail
      refine (i_Decimal n _ (by omega) (hL.below hb)).mono ?_
      rintro e w3 ⟨rfl, hb2⟩
      replace hb := hb.trans (hb2.mono hb.size)
      by_cases hq : Lib.itoa n = s.data.toList
      · have F : Hid (numL s.data.toList = some n) := Lib.hid (by rw [E.out, HP.out]; simp only; rw [if_pos hq])
        have ht : ((ofL (Lib.itoa n)).toList == s.toList) = true := by rw [ofL_toList, beq_iff_eq, hq, ByteArray.toList_eq]
        clear hq
        go_wp2
        go_ret2
        exact ⟨ret_num (by rw [F.out]; rfl) (by rw [F.out]; rfl), hb⟩
      · have F : Hid (numL s.data.toList = none) := Lib.hid (by rw [E.out, HP.out]; simp only; rw [if_neg hq])
        have ht : ((ofL (Lib.itoa n)).toList == s.toList) = false := by rw [ofL_toList, beq_eq_false_iff_ne, ByteArray.toList_eq]; exact hq
        clear hq
        go_wp2
        go_ret2
        exact ⟨ret_num (by rw [F.out]; rfl) (by rw [F.out]; rfl), hb⟩
    | range =>
      have F : Hid (numL s.data.toList = none) := Lib.hid (by rw [E.out, hp])
      have HP := Lib.hid hp
      clear hp
      obtain ⟨tp, p, hv⟩ := hL.err.2
      go_wp2_with fail
      refine (Tryz.strconv_ParseInt_10_at64_range_var s (by omega) HP.out tp p _ hv).mono ?_
      rintro e w2 ⟨N, rfl, _, _, hb⟩
      go_wp2
      go_ret2
      exact ⟨ret_num (by rw [F.out]; rfl) (by rw [F.out]; rfl), hb⟩
    | _ =>
      have F : Hid (numL s.data.toList = none) := Lib.hid (by rw [E.out, hp])
      have HP := Lib.hid hp
      clear hp
      obtain ⟨tp, p, hv⟩ := hL.err.1
      go_wp2_with fail
      refine (Tryz.strconv_ParseInt_10_at64_syntax_var s (by omega) HP.out tp p _ hv).mono ?_
      rintro e w2 ⟨N, rfl, _, _, hb⟩
      go_wp2
      go_ret2
      exact ⟨ret_num (by rw [F.out]; rfl) (by rw [F.out]; rfl), hb⟩

theorem str_cells (l : List ByteArray) : l.map Value.string = l.flatMap strE.cells := by
  induction l with
  | nil => rfl
  | cons x r ih => rw [List.map_cons, List.flatMap_cons, ih]; rfl
theorem GL.cuts (w : World) (c : UInt8) (s : ByteArray) (hl : (cutsB c s).length ≤ 4194304) : GL strE 9 w.heap.size (w.alloc (.cells ((cutsB c s).map Value.string).toArray 9)) (.slice (some ⟨w.heap.size, 0, none⟩) (cutsB c s).length (cutsB c s).length) (cutsB c s) := by
  have h := World.ownsRow_lit (base := w.heap.size) (e := 9) (size := 1) w ((cutsB c s).map Value.string).toArray (cutsB c s).length (Nat.le_refl _) (by unfold maxLen; omega) (by simp)
  rw [List.toList_toArray] at h
  unfold GL
  rw [← str_cells]
  exact h
theorem i_Split (s : ByteArray) (c : UInt8) (w : World) (hs : s.size ≤ 1048576) (hL : LibW w) :
    Calls Tryz.prog 48 #[.string s, .string ⟨#[c]⟩] w fun e w' => ∃ A n c', (cutsB c s).length = n ∧ n ≤ 1048577 ∧ e = .returned (.slice A n c') ∧ GL strE 9 w.heap.size w' (.slice A n c') (cutsB c s) ∧ Below w.heap.size w w' := by
  obtain ⟨m, hm⟩ := hL.max
  refine (Tryz.strings_Split s ⟨#[c]⟩ m w (by omega) hm (by simp [ByteArray.size])).mono ?_
  rintro e w1 ⟨rfl, rfl⟩
  have hl : (cutsB c s).length ≤ 1048577 := by
    unfold cutsB
    rw [List.length_map, cutsL_len]
    have := List.count_le_length (a := c) (l := s.data.toList)
    have e : s.data.toList.length = s.size := by simp
    omega
  rw [split_cuts, ← cutsB_len]
  exact ⟨_, _, _, rfl, hl, rfl, GL.cuts w c s (by omega), (Below.refl _ _).alloc (Nat.le_refl _) _⟩

end Go.Proofs.YtbdjhecbingcjaaGreatDoor
