/- Which lists of versions are a history: both sides. Printed by a program of mine. -/
import Derived.Test.YtfabijhilfjkcaaRows
import Derived.Test.YtfabijhilfjkcaaCVersion
import Derived.Test.YtfabijhilfjkcaaStateOk
namespace Go.Proofs.Ytfabijhilfjkcaa
set_option linter.unusedVariables false
set_option linter.unusedSimpArgs false
set_option linter.unusedSectionVars false
open Go.RowKit

set_option maxRecDepth 100000 in
set_option maxHeartbeats 4000000 in
theorem i_ValidHistory (A : Option Addr) (n c : Nat) (l : List DVersion) (w : World) (hr : RdVersion w A n l) (hn : n ≤ maxLen) (hg : ∀ x ∈ l, x.good) :
    Calls Try.prog 20 #[.slice A n c] w (RetB (histB l) w) := by
  unfold maxLen at hn
  have Hl := Lib.hid hr.len
  have HG := Lib.hid hg; clear hg
  go_enter Try.func20, Try.ntmps20
  go_wp2_with fail
  go_loopw [7] (fun i wr => ∃ k : Nat, k ≤ n ∧ i = .int .i64 k ∧ Below w.heap.size w wr ∧ Hid (HC l k)) (fun i _ => n - (intOf i).toNat)
  case atStart => exact ⟨0, Nat.zero_le _, rfl, Below.refl _ _, Lib.hid (hc_zero l)⟩
  case round =>
    obtain ⟨k, hk, rfl, hb, HH⟩ := hrel
    by_cases hlt : k < n
    · obtain ⟨b, off, x, A', n', c', rfl, hx, hcs, hru⟩ := hr.get hlt
      have hcr := range_below (B := 0) hcs hb
      have hc0 := hcr 0 _ rfl
      have hc1 := hcr 1 _ rfl
      have hc2 := hcr 2 _ rfl
      have hc3 := hcr 3 _ rfl
      simp only [Nat.add_zero] at hc0 hc1 hc2 hc3
      obtain ⟨_, _, hgm, hgs, hgx⟩ := HG.out x (mem_of_get hx)
      have hmm : n' ≤ maxLen := by rw [← hru.1]; exact hgs
      have HGM := Lib.hid hgm
      have HGX := Lib.hid hgx
      have HMM := Lib.hid hmm
      have HX := Lib.hid hx
      clear hcr hcs hx hgm hgx hmm hgs
      have hcx := range_new wr #[.int .i64 x.fNumber, .int .i64 x.fParent, .string x.fMemo, .slice A' n' c'] 45
      have hba : Below wr.heap.size wr (wr.alloc (.cells #[.int .i64 x.fNumber, .int .i64 x.fParent, .string x.fMemo, .slice A' n' c'] 45)) := (Below.refl _ _).alloc (Nat.le_refl _) _
      obtain ⟨W0, hW0⟩ : ∃ W0, wr.alloc (.cells #[.int .i64 x.fNumber, .int .i64 x.fParent, .string x.fMemo, .slice A' n' c'] 45) = W0 := ⟨_, rfl⟩
      rw [hW0] at hcx hba
      have hb0 := hb.trans (hba.mono hb.size)
      have HR := Lib.hid (hru.below hb0)
      have hx0 := hcx 0 _ rfl
      have hx1 := hcx 1 _ rfl
      have hx2 := hcx 2 _ rfl
      have hx3 := hcx 3 _ rfl
      simp only [Nat.zero_add] at hx0 hx1 hx2 hx3
      clear hcx hba hru
      have hwk : IntKind.i64.wrap ((k : Int) + 1) = (k : Int) + 1 := by rw [IntKind.wrap_i64]; omega
      by_cases hnum : x.fNumber = (k : Int) + 1
      · have hne : (x.fNumber != (k : Int) + 1) = false := by rw [hnum]; simp
        have HNUM := Lib.hid hnum
        clear hnum
        go_wp2_with fail
        try rw [hW0]
        clear hW0 hc0 hc1 hc2 hc3
        refine (i_within _ _ _ _).mono ?_
        rintro e w' ⟨rfl, rfl⟩
        rcases hp : inB x.fParent 0 k with _ | _
        · have EF : Hid (histB l = false) := Lib.hid (hc_bad HH.out HX.out (by unfold verB; rw [hp, Bool.false_and, Bool.and_false]))
          clear hp
          go_wp2
          go_ret
          exact ⟨ret_bool EF.out.symm, hb0⟩
        · have HP := Lib.hid hp; clear hp
          go_wp2_with fail
          refine (i_isMemo x.fMemo _ HGM.out).mono ?_
          rintro e w' ⟨rfl, rfl⟩
          rcases hq : memoB x.fMemo with _ | _
          · have EF : Hid (histB l = false) := Lib.hid (hc_bad HH.out HX.out (by unfold verB; rw [hq, Bool.false_and, Bool.and_false, Bool.and_false]))
            clear hq
            go_wp2
            go_ret
            exact ⟨ret_bool EF.out.symm, hb0⟩
          · have HQ := Lib.hid hq; clear hq
            go_wp2_with fail
            refine (i_ValidState A' n' c' x.fState _ HR.out HMM.out HGX.out).mono ?_
            rintro e w2 ⟨rfl, hb2⟩
            have hbN := hb0.trans (hb2.mono hb0.size)
            clear hb2 hb0 hx0 hx1 hx2 hx3
            rcases hs : stB x.fState with _ | _
            · have EF : Hid (histB l = false) := Lib.hid (hc_bad HH.out HX.out (by unfold verB; rw [hs, Bool.and_false, Bool.and_false, Bool.and_false]))
              clear hs
              go_wp2
              go_ret
              exact ⟨ret_bool EF.out.symm, hbN⟩
            · have HN := Lib.hid (hc_next HH.out HX.out (by unfold verB; rw [HP.out, HQ.out, hs, decide_eq_true HNUM.out]; rfl))
              clear hs
              go_wp2
              first | (refine ⟨⟨k + 1, by omega, by go_num, hbN, HN⟩, ?_⟩; (simp [intOf]; omega)) | (go_roundw; (case rel => first | exact ⟨k + 1, by omega, by go_num, hbN, HN⟩ | ((try refine ⟨trivial, ?_⟩); (repeat apply Exists.intro); exact ⟨⟨k + 1, by omega, by go_num, hbN, HN⟩, rfl⟩)); (case measure => (simp [intOf]; omega)))
      · have hne : (x.fNumber != (k : Int) + 1) = true := by rw [bne_iff_ne]; exact hnum
        have EF : Hid (histB l = false) := Lib.hid (hc_bad HH.out HX.out (by unfold verB; rw [decide_eq_false hnum, Bool.false_and]))
        clear hnum
        go_wp2
        try rw [hW0]
        go_ret
        exact ⟨ret_bool EF.out.symm, hb0⟩
    · have HN : Hid (HC l n) := Lib.hid ((show k = n from by omega) ▸ HH.out)
      have E : Hid (histB l = decide ((n : Int) ≤ 32)) := Lib.hid (hc_end HN.out Hl.out)
      go_wp2_with fail
      refine (i_few _ _ _ (by omega) (by omega)).mono ?_
      rintro e w' ⟨rfl, rfl⟩
      go_wp2
      go_ret
      exact ⟨ret_bool E.out.symm, hb⟩

set_option maxRecDepth 100000 in
set_option maxHeartbeats 4000000 in
theorem s_l27Ok (A : Option Addr) (n c : Nat) (l : List DVersion) (w : World) (hr : RdVersion w A n l) (hn : n ≤ maxLen) (hg : ∀ x ∈ l, x.good) :
    Calls Try.prog 12 #[.slice A n c] w (RetB (histB l) w) := by
  unfold maxLen at hn
  have Hl := Lib.hid hr.len
  have HG := Lib.hid hg; clear hg
  go_enter Try.func12, Try.ntmps12
  go_wp2_with fail
  go_loopw [3] (fun i wr => ∃ k : Nat, k ≤ n ∧ i = .int .i64 k ∧ Below w.heap.size w wr ∧ Hid (HC l k)) (fun i _ => n - (intOf i).toNat)
  case atStart => exact ⟨0, Nat.zero_le _, rfl, Below.refl _ _, Lib.hid (hc_zero l)⟩
  case round =>
    obtain ⟨k, hk, rfl, hb, HH⟩ := hrel
    by_cases hlt : k < n
    · obtain ⟨b, off, x, A', n', c', rfl, hx, hcs, hru⟩ := hr.get hlt
      have hcr := range_below (B := 0) hcs hb
      have hc0 := hcr 0 _ rfl
      have hc1 := hcr 1 _ rfl
      have hc2 := hcr 2 _ rfl
      have hc3 := hcr 3 _ rfl
      simp only [Nat.add_zero] at hc0 hc1 hc2 hc3
      obtain ⟨_, _, hgm, hgs, hgx⟩ := HG.out x (mem_of_get hx)
      have hmm : n' ≤ maxLen := by rw [← hru.1]; exact hgs
      have HGM := Lib.hid hgm
      have HGX := Lib.hid hgx
      have HMM := Lib.hid hmm
      have HX := Lib.hid hx
      clear hcr hcs hx hgm hgx hmm hgs
      have hcx := range_new wr #[.int .i64 x.fNumber, .int .i64 x.fParent, .string x.fMemo, .slice A' n' c'] 45
      have hba : Below wr.heap.size wr (wr.alloc (.cells #[.int .i64 x.fNumber, .int .i64 x.fParent, .string x.fMemo, .slice A' n' c'] 45)) := (Below.refl _ _).alloc (Nat.le_refl _) _
      obtain ⟨W0, hW0⟩ : ∃ W0, wr.alloc (.cells #[.int .i64 x.fNumber, .int .i64 x.fParent, .string x.fMemo, .slice A' n' c'] 45) = W0 := ⟨_, rfl⟩
      rw [hW0] at hcx hba
      have hb0 := hb.trans (hba.mono hb.size)
      have HR := Lib.hid (hru.below hb0)
      have hx0 := hcx 0 _ rfl
      have hx1 := hcx 1 _ rfl
      have hx2 := hcx 2 _ rfl
      have hx3 := hcx 3 _ rfl
      simp only [Nat.zero_add] at hx0 hx1 hx2 hx3
      clear hcx hba hru
      have hwk : IntKind.i64.wrap ((k : Int) + 1) = (k : Int) + 1 := by rw [IntKind.wrap_i64]; omega
      by_cases hnum : x.fNumber = (k : Int) + 1
      · have hne : (x.fNumber != (k : Int) + 1) = false := by rw [hnum]; simp
        have HNUM := Lib.hid hnum
        clear hnum
        go_wp2_with fail
        try rw [hW0]
        clear hW0 hc0 hc1 hc2 hc3
        refine (s_l00In _ _ _ _).mono ?_
        rintro e w' ⟨rfl, rfl⟩
        rcases hp : inB x.fParent 0 k with _ | _
        · have EF : Hid (histB l = false) := Lib.hid (hc_bad HH.out HX.out (by unfold verB; rw [hp, Bool.false_and, Bool.and_false]))
          clear hp
          go_wp2
          go_ret
          exact ⟨ret_bool EF.out.symm, hb0⟩
        · have HP := Lib.hid hp; clear hp
          go_wp2_with fail
          refine (s_l27Memo x.fMemo _ HGM.out).mono ?_
          rintro e w' ⟨rfl, rfl⟩
          rcases hq : memoB x.fMemo with _ | _
          · have EF : Hid (histB l = false) := Lib.hid (hc_bad HH.out HX.out (by unfold verB; rw [hq, Bool.false_and, Bool.and_false, Bool.and_false]))
            clear hq
            go_wp2
            go_ret
            exact ⟨ret_bool EF.out.symm, hb0⟩
          · have HQ := Lib.hid hq; clear hq
            go_wp2_with fail
            refine (s_l27State A' n' c' x.fState _ HR.out HMM.out HGX.out).mono ?_
            rintro e w2 ⟨rfl, hb2⟩
            have hbN := hb0.trans (hb2.mono hb0.size)
            clear hb2 hb0 hx0 hx1 hx2 hx3
            rcases hs : stB x.fState with _ | _
            · have EF : Hid (histB l = false) := Lib.hid (hc_bad HH.out HX.out (by unfold verB; rw [hs, Bool.and_false, Bool.and_false, Bool.and_false]))
              clear hs
              go_wp2
              go_ret
              exact ⟨ret_bool EF.out.symm, hbN⟩
            · have HN := Lib.hid (hc_next HH.out HX.out (by unfold verB; rw [HP.out, HQ.out, hs, decide_eq_true HNUM.out]; rfl))
              clear hs
              go_wp2
              first | (refine ⟨⟨k + 1, by omega, by go_num, hbN, HN⟩, ?_⟩; (simp [intOf]; omega)) | (go_roundw; (case rel => first | exact ⟨k + 1, by omega, by go_num, hbN, HN⟩ | ((try refine ⟨trivial, ?_⟩); (repeat apply Exists.intro); exact ⟨⟨k + 1, by omega, by go_num, hbN, HN⟩, rfl⟩)); (case measure => (simp [intOf]; omega)))
      · have hne : (x.fNumber != (k : Int) + 1) = true := by rw [bne_iff_ne]; exact hnum
        have EF : Hid (histB l = false) := Lib.hid (hc_bad HH.out HX.out (by unfold verB; rw [decide_eq_false hnum, Bool.false_and]))
        clear hnum
        go_wp2
        try rw [hW0]
        go_ret
        exact ⟨ret_bool EF.out.symm, hb0⟩
    · have HN : Hid (HC l n) := Lib.hid ((show k = n from by omega) ▸ HH.out)
      have E : Hid (histB l = decide ((n : Int) ≤ 32)) := Lib.hid (hc_end HN.out Hl.out)
      go_wp2
      go_ret
      exact ⟨ret_bool E.out.symm, hb⟩

end Go.Proofs.Ytfabijhilfjkcaa
