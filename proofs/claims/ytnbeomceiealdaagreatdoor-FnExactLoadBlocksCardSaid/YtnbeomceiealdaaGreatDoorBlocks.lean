/- Blocks: which are valid, and their order. -/
import Derived.Test.YtnbeomceiealdaaGreatDoorRows
import Derived.Test.YtnbeomceiealdaaGreatDoorNames
import Derived.Test.YtnbeomceiealdaaGreatDoorOrd
import Derived.Test.YtnbeomceiealdaaGreatDoorCBlock
import Derived.Test.YtnbeomceiealdaaGreatDoorShelf
import Derived.Deep.RegionHeld3
namespace Go.Proofs.YtnbeomceiealdaaGreatDoor
set_option linter.unusedVariables false
set_option linter.unusedSimpArgs false
set_option linter.unusedSectionVars false
open Go.RowKit

def noNl (s : ByteArray) : Bool := !(s.data.toList.any (· == 10))
def blockB (x : DBlock) : Bool := nameB x.fKind && (nameB x.fName && (decide ((x.fText.size : Int) ≤ 400) && noNl x.fText))
/-- how two blocks compare -/
def cmpBl (x y : DBlock) : Int := if cmpS x.fKind y.fKind ≠ 0 then cmpS x.fKind y.fKind else cmpS x.fName y.fName

set_option maxHeartbeats 400000 in
theorem i_ValidBlock (x : DBlock) (w : World) (hg : x.good) :
    Calls Tryz.prog 33 #[.agg #[.string x.fKind, .string x.fName, .string x.fText]] w (RetB (blockB x) w) := by
  obtain ⟨g1, g2, g3⟩ := hg
  have g3' := g3
  unfold maxLen at g3'
  have hC : Hid (decide (0 ≤ Lib.indexByte x.fText.data.toList 10) = !noNl x.fText) := Lib.hid (by rw [index_any]; unfold noNl; rw [Bool.not_not])
  go_enter Tryz.func33, Tryz.ntmps33
  go_wp2_with fail
  refine (i_IsName x.fKind _ g1).mono ?_
  rintro e w' ⟨rfl, rfl⟩
  rcases h1 : nameB x.fKind with _ | _
  · have E : Hid (blockB x = false) := Lib.hid (by unfold blockB; rw [h1]; rfl)
    clear h1
    go_wp2
    go_ret
    exact ⟨ret_bool E.out.symm, by (repeat (first | exact Below.refl _ _ | assumption | refine Below.drew ?_ | refine Below.alloc ?_ (by first | omega | (simp; done) | (simp; omega) | exact Below.size (by assumption)) _ | refine Below.setCell ?_ (by first | omega | (simp; done) | (simp; omega)) _))⟩
  · have H1 := Lib.hid h1; clear h1
    go_wp2_with fail
    refine (i_IsName x.fName _ g2).mono ?_
    rintro e w' ⟨rfl, rfl⟩
    rcases h2 : nameB x.fName with _ | _
    · have E : Hid (blockB x = false) := Lib.hid (by unfold blockB; rw [H1.out, h2]; rfl)
      clear h2
      go_wp2
      go_ret
      exact ⟨ret_bool E.out.symm, by (repeat (first | exact Below.refl _ _ | assumption | refine Below.drew ?_ | refine Below.alloc ?_ (by first | omega | (simp; done) | (simp; omega) | exact Below.size (by assumption)) _ | refine Below.setCell ?_ (by first | omega | (simp; done) | (simp; omega)) _))⟩
    · have H2 := Lib.hid h2; clear h2
      go_wp2_with fail
      refine (i_few _ _ _ (by omega) (by omega)).mono ?_
      rintro e w' ⟨rfl, rfl⟩
      by_cases h3 : (x.fText.size : Int) ≤ 400
      · have E : Hid (blockB x = noNl x.fText) := Lib.hid (by unfold blockB; rw [H1.out, H2.out, decide_eq_true h3]; rfl)
        rw [decide_eq_true h3]
        go_wp2_with fail
        refine (Tryz.strings_Contains_one x.fText 10 _).mono ?_
        rintro e w' ⟨rfl, hw⟩
        subst hw
        rw [hC.out]
        go_wp2
        go_ret
        exact ⟨ret_bool (by rw [E.out]), by (repeat (first | exact Below.refl _ _ | assumption | refine Below.drew ?_ | refine Below.alloc ?_ (by first | omega | (simp; done) | (simp; omega) | exact Below.size (by assumption)) _ | refine Below.setCell ?_ (by first | omega | (simp; done) | (simp; omega)) _))⟩
      · have E : Hid (blockB x = false) := Lib.hid (by unfold blockB; rw [H1.out, H2.out, decide_eq_false h3]; rfl)
        rw [decide_eq_false h3]
        go_wp2
        go_ret
        exact ⟨ret_bool E.out.symm, by (repeat (first | exact Below.refl _ _ | assumption | refine Below.drew ?_ | refine Below.alloc ?_ (by first | omega | (simp; done) | (simp; omega) | exact Below.size (by assumption)) _ | refine Below.setCell ?_ (by first | omega | (simp; done) | (simp; omega)) _))⟩

set_option maxHeartbeats 400000 in
theorem s_l29One (b off : Nat) (x : DBlock) (w : World) (hg : x.good) (hc : w.rangeAt b off (blockE.cells x)) :
    Calls Tryz.prog 25 #[.pointer (some ⟨b, off, none⟩)] w fun e w' => e = .returned (.bool (blockB x)) ∧ w = w' := by
  have hc0 := hc 0 (.string x.fKind) rfl
  have hc1 := hc 1 (.string x.fName) rfl
  have hc2 := hc 2 (.string x.fText) rfl
  rw [Nat.add_zero] at hc0
  clear hc
  obtain ⟨g1, g2, g3⟩ := hg
  have g3' := g3
  unfold maxLen at g3'
  go_enter Tryz.func25, Tryz.ntmps25
  go_wp2_with fail
  go_loop [3] (fun i => ∃ k : Nat, k ≤ x.fText.size ∧ i = .int .i64 k ∧ Hid (x.fText.data.toList.any (· == 10) = (x.fText.data.toList.drop k).any (· == 10))) (fun i => x.fText.size - (intOf i).toNat)
  case atStart => exact ⟨0, Nat.zero_le _, rfl, Lib.hid rfl⟩
  case round =>
    obtain ⟨k, hk, rfl, HH⟩ := hrel
    by_cases hlt : k < x.fText.size
    · have HD := Lib.hid (drop_of_get (byte_at x.fText k hlt))
      by_cases h10 : (x.fText[k].toNat : Int) = 10
      · have HT : Hid (x.fText[k] = 10) := Lib.hid (UInt8.toNat_inj.1 (by show _ = 10; omega))
        have ht : ((x.fText[k].toNat : Int) == 10) = true := by rw [beq_iff_eq]; exact h10
        clear h10
        go_wp2
        go_ret
        exact ⟨ret_bool (by unfold blockB noNl; rw [HH.out, HD.out, List.any_cons, HT.out]; simp), rfl⟩
      · have HT : Hid ((x.fText[k] == 10) = false) := Lib.hid (by rw [beq_eq_false_iff_ne]; intro e; rw [e] at h10; exact h10 rfl)
        have ht : ((x.fText[k].toNat : Int) == 10) = false := by rw [beq_eq_false_iff_ne]; exact h10
        clear h10
        go_wp2
        first | (refine ⟨⟨k + 1, by omega, by go_num, Lib.hid (by rw [HH.out, HD.out, List.any_cons, HT.out]; rfl)⟩, ?_⟩; (simp [intOf]; omega)) | (go_round; (case rel => first | exact ⟨k + 1, by omega, by go_num, Lib.hid (by rw [HH.out, HD.out, List.any_cons, HT.out]; rfl)⟩ | ((try refine ⟨trivial, ?_⟩); (repeat apply Exists.intro); exact ⟨⟨k + 1, by omega, by go_num, Lib.hid (by rw [HH.out, HD.out, List.any_cons, HT.out]; rfl)⟩, rfl⟩)); (case measure => (simp [intOf]; omega)))
    · have HN : Hid (noNl x.fText = true) := Lib.hid (by unfold noNl; rw [HH.out, List.drop_of_length_le (by simp; omega)]; rfl)
      go_wp2_with fail
      refine (s_l01Name x.fKind _ g1).mono ?_
      rintro e w' ⟨rfl, rfl⟩
      rcases h1 : nameB x.fKind with _ | _
      · have E : Hid (blockB x = false) := Lib.hid (by unfold blockB; rw [h1]; rfl)
        clear h1
        go_wp2
        go_ret
        exact ⟨ret_bool E.out.symm, rfl⟩
      · have H1 := Lib.hid h1; clear h1
        go_wp2_with fail
        refine (s_l01Name x.fName _ g2).mono ?_
        rintro e w' ⟨rfl, rfl⟩
        rcases h2 : nameB x.fName with _ | _
        · have E : Hid (blockB x = false) := Lib.hid (by unfold blockB; rw [H1.out, h2]; rfl)
          clear h2
          go_wp2
          go_ret
          exact ⟨ret_bool E.out.symm, rfl⟩
        · have H2 := Lib.hid h2; clear h2
          go_wp2
          go_ret
          exact ⟨ret_bool (by unfold blockB; rw [H1.out, H2.out, HN.out]; simp), rfl⟩

set_option maxHeartbeats 400000 in
theorem i_Block_compare (x y : DBlock) (w : World) :
    Calls Tryz.prog 17 #[.agg #[.string x.fKind, .string x.fName, .string x.fText], .agg #[.string y.fKind, .string y.fName, .string y.fText]] w fun e w' => e = .returned (.int .i64 (cmpBl x y)) ∧ Below w.heap.size w w' := by
  have hK : Hid (Lib.compareBytes x.fKind.data.toList y.fKind.data.toList = cmpS x.fKind y.fKind) := Lib.hid rfl
  have hN : Hid (Lib.compareBytes x.fName.data.toList y.fName.data.toList = cmpS x.fName y.fName) := Lib.hid rfl
  go_enter Tryz.func17, Tryz.ntmps17
  go_wp2_with fail
  refine (Tryz.strings_Compare x.fKind y.fKind _).mono ?_
  rintro e w' ⟨rfl, hw⟩
  subst hw
  rw [hK.out]
  by_cases h : cmpS x.fKind y.fKind = 0
  · have E : Hid (cmpBl x y = cmpS x.fName y.fName) := Lib.hid (by unfold cmpBl; rw [if_neg (by simpa using h)])
    rw [h]
    go_wp2_with fail
    refine (Tryz.strings_Compare x.fName y.fName _).mono ?_
    rintro e w' ⟨rfl, hw⟩
    subst hw
    rw [hN.out]
    go_wp2
    go_ret
    exact ⟨ret_int E.out.symm, by (repeat (first | exact Below.refl _ _ | assumption | refine Below.drew ?_ | refine Below.alloc ?_ (by first | omega | (simp; done) | (simp; omega) | exact Below.size (by assumption)) _ | refine Below.setCell ?_ (by first | omega | (simp; done) | (simp; omega)) _))⟩
  · have E : Hid (cmpBl x y = cmpS x.fKind y.fKind) := Lib.hid (by unfold cmpBl; rw [if_pos h])
    have h1 : (cmpS x.fKind y.fKind != 0) = true := by rw [bne_iff_ne]; exact h
    clear h
    go_wp2
    go_ret
    exact ⟨ret_int E.out.symm, by (repeat (first | exact Below.refl _ _ | assumption | refine Below.drew ?_ | refine Below.alloc ?_ (by first | omega | (simp; done) | (simp; omega) | exact Below.size (by assumption)) _ | refine Below.setCell ?_ (by first | omega | (simp; done) | (simp; omega)) _))⟩

theorem before_eq (x y : DBlock) : (ltS x.fKind y.fKind || (decide (x.fKind = y.fKind) && ltS x.fName y.fName)) = decide (cmpBl x y < 0) := by
  rw [ltS_cmp, ltS_cmp]
  unfold cmpBl
  have h0 := cmpS_zero x.fKind y.fKind
  by_cases h : cmpS x.fKind y.fKind = 0
  · rw [if_neg (by simpa using h), decide_eq_true (h0.1 h), decide_eq_false (p := cmpS x.fKind y.fKind < 0) (by omega)]
    simp
  · rw [if_pos h, decide_eq_false (p := x.fKind = y.fKind) (fun e => h (h0.2 e))]
    simp

set_option maxHeartbeats 1000000 in
theorem s_l29Before (b off b' off' : Nat) (x y : DBlock) (w : World) (hc : w.rangeAt b off (blockE.cells x)) (hd : w.rangeAt b' off' (blockE.cells y)) :
    Calls Tryz.prog 12 #[.pointer (some ⟨b, off, none⟩), .pointer (some ⟨b', off', none⟩)] w fun e w' => e = .returned (.bool (decide (cmpBl x y < 0))) ∧ ∃ m, w' = w.drewN m := by
  have hc0 := hc 0 (.string x.fKind) rfl
  have hc1 := hc 1 (.string x.fName) rfl
  have hd0 := hd 0 (.string y.fKind) rfl
  have hd1 := hd 1 (.string y.fName) rfl
  rw [Nat.add_zero] at hc0 hd0
  clear hc hd
  have E := Lib.hid (before_eq x y)
  rcases h1 : Op.bytesLess x.fKind.toList y.fKind.toList with _ | _
  · have L1 : Hid (ltS x.fKind y.fKind = false) := Lib.hid h1
    by_cases h2 : x.fKind = y.fKind
    · have L2 := Lib.hid h2
      have h2' : (x.fKind.toList == y.fKind.toList) = true := by rw [h2]; exact beq_self_eq_true _
      clear h2
      rcases h3 : Op.bytesLess x.fName.toList y.fName.toList with _ | _
      · have L3 : Hid (ltS x.fName y.fName = false) := Lib.hid h3
        go_enter Tryz.func12, Tryz.ntmps12
        go_wp2_with fail
        go_quiet (fail)
        go_wp2
        go_ret
        exact ⟨ret_bool (by rw [← E.out, L1.out, L3.out]; simp), ⟨_, rfl⟩⟩
      · have L3 : Hid (ltS x.fName y.fName = true) := Lib.hid h3
        go_enter Tryz.func12, Tryz.ntmps12
        go_wp2_with fail
        go_quiet (fail)
        go_wp2
        go_ret
        exact ⟨ret_bool (by rw [← E.out, L1.out, L3.out, decide_eq_true L2.out]; rfl), ⟨_, rfl⟩⟩
    · have L2 := Lib.hid h2
      have h2' : (x.fKind.toList == y.fKind.toList) = false := by rw [eqS_iff]; exact decide_eq_false h2
      clear h2
      go_enter Tryz.func12, Tryz.ntmps12
      go_wp2_with fail
      go_quiet (fail)
      go_wp2
      go_ret
      exact ⟨ret_bool (by rw [← E.out, L1.out, decide_eq_false L2.out]; rfl), ⟨_, rfl⟩⟩
  · have L1 : Hid (ltS x.fKind y.fKind = true) := Lib.hid h1
    go_enter Tryz.func12, Tryz.ntmps12
    go_wp2_with fail
    go_quiet (fail)
    go_wp2
    go_ret
    exact ⟨ret_bool (by rw [← E.out, L1.out]; rfl), ⟨_, rfl⟩⟩

end Go.Proofs.YtnbeomceiealdaaGreatDoor
