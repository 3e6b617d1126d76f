/- The text of a report. -/
import Derived.Test.YtnjjipcjmmdniaaRows
import Derived.Test.YtnjjipcjmmdniaaRep
namespace Go.Proofs.Ytnjjipcjmmdniaa
set_option linter.unusedVariables false
set_option linter.unusedSimpArgs false
set_option linter.unusedSectionVars false
open Go.RowKit

/-- all lines, each ended -/
def endL : List ByteArray → List UInt8
  | [] => []
  | s :: r => s.data.toList ++ 10 :: endL r
def endB (ss : List ByteArray) : ByteArray := ⟨(endL ss).toArray⟩
theorem endL_snoc (a : List ByteArray) (s : ByteArray) : endL (a ++ [s]) = endL a ++ s.data.toList ++ [10] := by
  induction a with
  | nil => simp [endL]
  | cons x r ih => simp [endL, ih]

theorem endB_snoc (a : List ByteArray) (s : ByteArray) : endB a ++ (s ++ ⟨#[10]⟩) = endB (a ++ [s]) := by
  apply ba_ext
  rw [ba_app, ba_app]
  simp [endB, endL_snoc]
theorem repB_spec {ss : List ByteArray} (h : repB ss = true) : ss.length ≤ 200 ∧ ∀ s ∈ ss, s.size ≤ 100 := by
  unfold repB linesB at h
  rw [Bool.and_eq_true, List.all_eq_true] at h
  refine ⟨by have := of_decide_eq_true h.2; omega, fun s hs => ?_⟩
  have := h.1 s hs
  unfold lineB at this
  rw [Bool.and_eq_true] at this
  have := of_decide_eq_true this.2
  omega
/-- the text of a report; empty if it is none -/
def repText (ss : List ByteArray) : ByteArray := if repB ss then endB ss else ⟨#[]⟩

set_option maxHeartbeats 400000 in
theorem s_l30Text (A : Option Addr) (n c : Nat) (ss : List ByteArray) (w : World) (hr : Rd strE w A n ss) (hn : n ≤ 200) (hs : ∀ s ∈ ss, s.size ≤ 100) :
    Calls Try.prog 47 #[.slice A n c] w fun e w' => e = .returned (.string (endB ss)) ∧ w = w' := by
  have Hl := Lib.hid hr.1
  have HS := Lib.hid hs; clear hs
  go_enter Try.func47, Try.ntmps47
  go_wp2_with fail
  go_loop [3, 4] (fun t i => ∃ (k : Nat) (T : ByteArray), k ≤ n ∧ i = .int .i64 k ∧ t = .string T ∧ T.size ≤ 101 * k ∧ Hid (T = endB (ss.take k))) (fun _ i => n - (intOf i).toNat)
  case atStart => exact ⟨0, ⟨#[]⟩, Nat.zero_le _, rfl, rfl, Nat.zero_le _, Lib.hid rfl⟩
  case round =>
    obtain ⟨k, T, hk, rfl, rfl, hT, HT⟩ := hrel
    by_cases hlt : k < n
    · obtain ⟨b, off, s, rfl, hks, hc⟩ := hr.get hlt
      have hc0 := hc 0 (.string s) rfl
      simp only [strE, Nat.mul_one, Nat.add_zero] at hc0
      have hz := HS.out s (mem_of_get hks)
      have HD := Lib.hid (take_of_get hks); clear hks hc
      go_wp2_with fail
      first | (refine ⟨⟨k + 1, T ++ (s ++ ⟨#[10]⟩), by omega, by go_num, rfl, by rw [ba_app_size, ba_app_size]; show _ + (s.size + 1) ≤ _; omega, Lib.hid (by rw [HT.out, HD.out]; exact endB_snoc _ _)⟩, ?_⟩; (simp [intOf]; omega)) | (go_round; (case rel => exact ⟨k + 1, T ++ (s ++ ⟨#[10]⟩), by omega, by go_num, rfl, by rw [ba_app_size, ba_app_size]; show _ + (s.size + 1) ≤ _; omega, Lib.hid (by rw [HT.out, HD.out]; exact endB_snoc _ _)⟩); (case measure => (simp [intOf]; omega)))
    · go_wp2
      go_ret
      exact ⟨by rw [HT.out, List.take_of_length_le (by have := Hl.out; omega)]; rfl, rfl⟩

set_option maxHeartbeats 400000 in
theorem i_endedLines (A : Option Addr) (n c : Nat) (ss : List ByteArray) (w : World) (hr : Rd strE w A n ss) (hn : n ≤ 200) (hs : ∀ s ∈ ss, s.size ≤ 100) :
    Calls Try.prog 48 #[.slice A n c] w fun e w' => e = .returned (.string (endB ss)) ∧ w = w' := by
  have Hl := Lib.hid hr.1
  have HS := Lib.hid hs; clear hs
  go_enter Try.func48, Try.ntmps48
  go_wp2_with fail
  go_loop [3, 8] (fun t i => ∃ (k : Nat) (T : ByteArray), k ≤ n ∧ i = .int .i64 k ∧ t = .string T ∧ T.size ≤ 101 * k ∧ Hid (T = endB (ss.take k))) (fun _ i => n - (intOf i).toNat)
  case atStart => exact ⟨0, ⟨#[]⟩, Nat.zero_le _, rfl, rfl, Nat.zero_le _, Lib.hid rfl⟩
  case round =>
    obtain ⟨k, T, hk, rfl, rfl, hT, HT⟩ := hrel
    by_cases hlt : k < n
    · obtain ⟨b, off, s, rfl, hks, hc⟩ := hr.get hlt
      have hc0 := hc 0 (.string s) rfl
      simp only [strE, Nat.mul_one, Nat.add_zero] at hc0
      have hz := HS.out s (mem_of_get hks)
      have HD := Lib.hid (take_of_get hks); clear hks hc
      go_wp2_with fail
      first | (refine ⟨⟨k + 1, T ++ (s ++ ⟨#[10]⟩), by omega, by go_num, rfl, by rw [ba_app_size, ba_app_size]; show _ + (s.size + 1) ≤ _; omega, Lib.hid (by rw [HT.out, HD.out]; exact endB_snoc _ _)⟩, ?_⟩; (simp [intOf]; omega)) | (go_round; (case rel => exact ⟨k + 1, T ++ (s ++ ⟨#[10]⟩), by omega, by go_num, rfl, by rw [ba_app_size, ba_app_size]; show _ + (s.size + 1) ≤ _; omega, Lib.hid (by rw [HT.out, HD.out]; exact endB_snoc _ _)⟩); (case measure => (simp [intOf]; omega)))
    · go_wp2
      go_ret
      exact ⟨by rw [HT.out, List.take_of_length_le (by have := Hl.out; omega)]; rfl, rfl⟩

set_option maxHeartbeats 400000 in
theorem s_ReportText (A : Option Addr) (n c : Nat) (ss : List ByteArray) (w : World) (hr : Rd strE w A n ss) (hn : n ≤ maxLen) (hs : ∀ s ∈ ss, s.size ≤ maxLen) :
    Calls Try.prog 27 #[.slice A n c] w fun e w' => e = .returned (.string (repText ss)) ∧ w = w' := by
  have HS := Lib.hid hs; clear hs
  rcases hb : repB ss with _ | _
  · have E : Hid (repText ss = ⟨#[]⟩) := Lib.hid (by unfold repText; rw [hb]; rfl)
    have HB := Lib.hid hb; clear hb
    go_enter Try.func27, Try.ntmps27
    go_wp2_with fail
    refine (s_l30Ok A n c ss _ hr hn HS.out).mono ?_
    rintro e w' ⟨rfl, rfl⟩
    rw [HB.out]
    go_wp2
    go_ret
    exact ⟨by rw [E.out]; rfl, rfl⟩
  · have E : Hid (repText ss = endB ss) := Lib.hid (by unfold repText; rw [hb]; rfl)
    have hsp := Lib.hid (repB_spec hb)
    have hn2 : n ≤ 200 := by have := hsp.out.1; have := hr.1; omega
    have HB := Lib.hid hb; clear hb
    go_enter Try.func27, Try.ntmps27
    go_wp2_with fail
    refine (s_l30Ok A n c ss _ hr hn HS.out).mono ?_
    rintro e w' ⟨rfl, rfl⟩
    rw [HB.out]
    go_wp2_with fail
    refine (s_l30Text A n c ss _ hr hn2 hsp.out.2).mono ?_
    rintro e w' ⟨rfl, rfl⟩
    go_wp2
    go_ret
    exact ⟨by rw [E.out]; rfl, rfl⟩

set_option maxHeartbeats 400000 in
theorem i_ReportText (A : Option Addr) (n c : Nat) (ss : List ByteArray) (w : World) (hr : Rd strE w A n ss) (hn : n ≤ maxLen) (hs : ∀ s ∈ ss, s.size ≤ maxLen) :
    Calls Try.prog 28 #[.slice A n c] w fun e w' => e = .returned (.string (repText ss)) ∧ w = w' := by
  have HS := Lib.hid hs; clear hs
  rcases hb : repB ss with _ | _
  · have E : Hid (repText ss = ⟨#[]⟩) := Lib.hid (by unfold repText; rw [hb]; rfl)
    have HB := Lib.hid hb; clear hb
    go_enter Try.func28, Try.ntmps28
    go_wp2_with fail
    refine (i_ValidReport A n c ss _ hr hn HS.out).mono ?_
    rintro e w' ⟨rfl, rfl⟩
    rw [HB.out]
    go_wp2
    go_ret
    exact ⟨by rw [E.out]; rfl, rfl⟩
  · have E : Hid (repText ss = endB ss) := Lib.hid (by unfold repText; rw [hb]; rfl)
    have hsp := Lib.hid (repB_spec hb)
    have hn2 : n ≤ 200 := by have := hsp.out.1; have := hr.1; omega
    have HB := Lib.hid hb; clear hb
    go_enter Try.func28, Try.ntmps28
    go_wp2_with fail
    refine (i_ValidReport A n c ss _ hr hn HS.out).mono ?_
    rintro e w' ⟨rfl, rfl⟩
    rw [HB.out]
    go_wp2_with fail
    refine (i_endedLines A n c ss _ hr hn2 hsp.out.2).mono ?_
    rintro e w' ⟨rfl, rfl⟩
    go_wp2
    go_ret
    exact ⟨by rw [E.out]; rfl, rfl⟩

set_option maxHeartbeats 1000000 in
theorem w_ReportText (A : Option Addr) (n c : Nat) (ss : List ByteArray) (w : World) (hr : Rd strE w A n ss) (hn : n ≤ maxLen) (hs : ∀ s ∈ ss, s.size ≤ maxLen) :
    Calls Try.prog 8 #[.slice A n c] w (RetB true w) := by
  have HS := Lib.hid hs; clear hs
  go_enter Try.func8, Try.ntmps8
  go_wp2_with fail
  refine (l_szStringS A n c ss 1048576 _ hr hn HS.out (by omega) (by omega)).mono ?_
  rintro e w' ⟨r, rfl, rfl, hr0, hr1⟩
  by_cases hneg : r < 0
  · clear hr1
    go_wp2
    go_ret
    exact ⟨rfl, by (repeat (first | exact Below.refl _ _ | assumption | refine Below.drew ?_ | refine Below.alloc ?_ (by first | omega | (simp; done) | (simp; omega) | exact Below.size (by assumption)) _ | refine Below.setCell ?_ (by first | omega | (simp; done) | (simp; omega)) _))⟩
  · have h1 := hr1 (by omega)
    have hp := sumS_nonneg ss
    have hn2 : n ≤ 1048576 := by omega
    clear h1 hp hr1
    go_wp2_with fail
    refine (l_toStringS A n c ss _ hr hn2).mono ?_
    rintro e w1 ⟨A1, c1, rfl, hl1, ho1, hb1⟩
    have R1 := Rd.of_own ho1 hl1
    clear hl1
    have R0 := hr.below hb1
    go_wp2_with fail
    refine (s_ReportText A1 n c1 ss _ R1 hn HS.out).mono ?_
    rintro e w' ⟨rfl, rfl⟩
    go_wp2_with fail
    refine (l_toStringS A n c ss _ R0 hn2).mono ?_
    rintro e w2 ⟨A2, c2, rfl, hl2, ho2, hb2⟩
    have R2 := Rd.of_own ho2 hl2
    clear hl2
    have R0' := R0.below hb2
    go_wp2_with fail
    refine (i_ReportText A2 n c2 ss _ R2 hn HS.out).mono ?_
    rintro e w' ⟨rfl, rfl⟩
    go_wp2_with fail
    refine (l_toStringS A n c ss _ R0' hn2).mono ?_
    rintro e w3 ⟨A3, c3, rfl, hl3, ho3, hb3⟩
    have R3 := Rd.of_own ho3 hl3
    clear hl3
    go_wp2_with fail
    refine (l_eqStringS A2 A3 n c2 c3 ss _ (R2.below hb3) R3 hn).mono ?_
    rintro e w4 ⟨rfl, hb4⟩
    go_wp2
    go_ret
    exact ⟨rfl, hb1.trans ((hb2.trans ((hb3.trans (hb4.mono hb3.size)).mono hb2.size)).mono hb1.size)⟩

end Go.Proofs.Ytnjjipcjmmdniaa
