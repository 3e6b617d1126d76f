/- Blocks: which are valid, and their order. -/
import Derived.Test.YtndbppplkfpgnaaGreatDoorRows
import Derived.Test.YtndbppplkfpgnaaGreatDoorNames
import Derived.Test.YtndbppplkfpgnaaGreatDoorOrd
import Derived.Test.YtndbppplkfpgnaaGreatDoorCBlock
import Derived.Test.YtndbppplkfpgnaaGreatDoorShelf
import Derived.Deep.RegionHeld3
namespace Go.Proofs.YtndbppplkfpgnaaGreatDoor
set_option linter.unusedVariables false
set_option linter.unusedSimpArgs false
set_option linter.unusedSectionVars false
open Go.RowKit

def noNl (s : ByteArray) : Bool := !(s.data.toList.any (· == 10))
def blockB (x : DBlock) : Bool := nameB x.fKind && (nameB x.fName && (decide ((x.fText.size : Int) ≤ 400) && noNl x.fText))
/-- how two blocks compare -/
def cmpBl (x y : DBlock) : Int := if cmpS x.fKind y.fKind ≠ 0 then cmpS x.fKind y.fKind else cmpS x.fName y.fName

set_option maxHeartbeats 400000 in
theorem i_ValidBlock (x : DBlock) (w : World) (hg : x.good) :
    Calls Tryz.prog 26 #[.agg #[.string x.fKind, .string x.fName, .string x.fText]] w (RetB (blockB x) w) := by
  obtain ⟨g1, g2, g3⟩ := hg
  have g3' := g3
  unfold maxLen at g3'
  have hC : Hid (decide (0 ≤ Lib.indexByte x.fText.data.toList 10) = !noNl x.fText) := Lib.hid (by rw [index_any]; unfold noNl; rw [Bool.not_not])
  go_enter Tryz.func26, Tryz.ntmps26
  go_wp2_with fail
  refine (i_IsName x.fKind _ g1).mono ?_
  rintro e w' ⟨rfl, rfl⟩
  rcases h1 : nameB x.fKind with _ | _
  · have E : Hid (blockB x = false) := Lib.hid (by unfold blockB; rw [h1]; rfl)
    clear h1
    go_wp2
    go_ret
    exact ⟨ret_bool E.out.symm, by (repeat (first | exact Below.refl _ _ | assumption | refine Below.drew ?_ | refine Below.alloc ?_ (by first | omega | (simp; done) | (simp; omega) | exact Below.size (by assumption)) _ | refine Below.setCell ?_ (by first | omega | (simp; done) | (simp; omega)) _))⟩
  · have H1 := Lib.hid h1; clear h1
    go_wp2_with fail
    refine (i_IsName x.fName _ g2).mono ?_
    rintro e w' ⟨rfl, rfl⟩
    rcases h2 : nameB x.fName with _ | _
    · have E : Hid (blockB x = false) := Lib.hid (by unfold blockB; rw [H1.out, h2]; rfl)
      clear h2
      go_wp2
      go_ret
      exact ⟨ret_bool E.out.symm, by (repeat (first | exact Below.refl _ _ | assumption | refine Below.drew ?_ | refine Below.alloc ?_ (by first | omega | (simp; done) | (simp; omega) | exact Below.size (by assumption)) _ | refine Below.setCell ?_ (by first | omega | (simp; done) | (simp; omega)) _))⟩
    · have H2 := Lib.hid h2; clear h2
      go_wp2_with fail
      refine (i_few _ _ _ (by omega) (by omega)).mono ?_
      rintro e w' ⟨rfl, rfl⟩
      by_cases h3 : (x.fText.size : Int) ≤ 400
      · have E : Hid (blockB x = noNl x.fText) := Lib.hid (by unfold blockB; rw [H1.out, H2.out, decide_eq_true h3]; rfl)
        rw [decide_eq_true h3]
        go_wp2_with fail
        refine (Tryz.strings_Contains_one x.fText 10 _).mono ?_
        rintro e w' ⟨rfl, hw⟩
        subst hw
        rw [hC.out]
        go_wp2
        go_ret
        exact ⟨ret_bool (by rw [E.out]), by (repeat (first | exact Below.refl _ _ | assumption | refine Below.drew ?_ | refine Below.alloc ?_ (by first | omega | (simp; done) | (simp; omega) | exact Below.size (by assumption)) _ | refine Below.setCell ?_ (by first | omega | (simp; done) | (simp; omega)) _))⟩
      · have E : Hid (blockB x = false) := Lib.hid (by unfold blockB; rw [H1.out, H2.out, decide_eq_false h3]; rfl)
        rw [decide_eq_false h3]
        go_wp2
        go_ret
        exact ⟨ret_bool E.out.symm, by (repeat (first | exact Below.refl _ _ | assumption | refine Below.drew ?_ | refine Below.alloc ?_ (by first | omega | (simp; done) | (simp; omega) | exact Below.size (by assumption)) _ | refine Below.setCell ?_ (by first | omega | (simp; done) | (simp; omega)) _))⟩

set_option maxHeartbeats 400000 in
theorem s_l29One (b off : Nat) (x : DBlock) (w : World) (hg : x.good) (hc : w.rangeAt b off (blockE.cells x)) :
    Calls Tryz.prog 23 #[.pointer (some ⟨b, off, none⟩)] w fun e w' => e = .returned (.bool (blockB x)) ∧ w = w' := by
  have hc0 := hc 0 (.string x.fKind) rfl
  have hc1 := hc 1 (.string x.fName) rfl
  have hc2 := hc 2 (.string x.fText) rfl
  rw [Nat.add_zero] at hc0
  clear hc
  obtain ⟨g1, g2, g3⟩ := hg
  have g3' := g3
  unfold maxLen at g3'
  go_enter Tryz.func23, Tryz.ntmps23
  go_wp2_with fail
  go_loop [3] (fun i => ∃ k : Nat, k ≤ x.fText.size ∧ i = .int .i64 k ∧ Hid (x.fText.data.toList.any (· == 10) = (x.fText.data.toList.drop k).any (· == 10))) (fun i => x.fText.size - (intOf i).toNat)
  case atStart => exact ⟨0, Nat.zero_le _, rfl, Lib.hid rfl⟩
  case round =>
    obtain ⟨k, hk, rfl, HH⟩ := hrel
    by_cases hlt : k < x.fText.size
    · have HD := Lib.hid (drop_of_get (byte_at x.fText k hlt))
      by_cases h10 : (x.fText[k].toNat : Int) = 10
      · have HT : Hid (x.fText[k] = 10) := Lib.hid (UInt8.toNat_inj.1 (by show _ = 10; omega))
        have ht : ((x.fText[k].toNat : Int) == 10) = true := by rw [beq_iff_eq]; exact h10
        clear h10
        go_wp2
        go_ret
        exact ⟨ret_bool (by unfold blockB noNl; rw [HH.out, HD.out, List.any_cons, HT.out]; simp), rfl⟩
      · have HT : Hid ((x.fText[k] == 10) = false) := Lib.hid (by rw [beq_eq_false_iff_ne]; intro e; rw [e] at h10; exact h10 rfl)
        have ht : ((x.fText[k].toNat : Int) == 10) = false := by rw [beq_eq_false_iff_ne]; exact h10
        clear h10
        go_wp2
        first | (refine ⟨⟨k + 1, by omega, by go_num, Lib.hid (by rw [HH.out, HD.out, List.any_cons, HT.out]; rfl)⟩, ?_⟩; (simp [intOf]; omega)) | (go_round; (case rel => first | exact ⟨k + 1, by omega, by go_num, Lib.hid (by rw [HH.out, HD.out, List.any_cons, HT.out]; rfl)⟩ | ((try refine ⟨trivial, ?_⟩); (repeat apply Exists.intro); exact ⟨⟨k + 1, by omega, by go_num, Lib.hid (by rw [HH.out, HD.out, List.any_cons, HT.out]; rfl)⟩, rfl⟩)); (case measure => (simp [intOf]; omega)))
    · have HN : Hid (noNl x.fText = true) := Lib.hid (by unfold noNl; rw [HH.out, List.drop_of_length_le (by simp; omega)]; rfl)
      go_wp2_with fail
      refine (s_l01Name x.fKind _ g1).mono ?_
      rintro e w' ⟨rfl, rfl⟩
      rcases h1 : nameB x.fKind with _ | _
      · have E : Hid (blockB x = false) := Lib.hid (by unfold blockB; rw [h1]; rfl)
        clear h1
        go_wp2
        go_ret
        exact ⟨ret_bool E.out.symm, rfl⟩
      · have H1 := Lib.hid h1; clear h1
        go_wp2_with fail
        refine (s_l01Name x.fName _ g2).mono ?_
        rintro e w' ⟨rfl, rfl⟩
        rcases h2 : nameB x.fName with _ | _
        · have E : Hid (blockB x = false) := Lib.hid (by unfold blockB; rw [H1.out, h2]; rfl)
          clear h2
          go_wp2
          go_ret
          exact ⟨ret_bool E.out.symm, rfl⟩
        · have H2 := Lib.hid h2; clear h2
          go_wp2
          go_ret
          exact ⟨ret_bool (by unfold blockB; rw [H1.out, H2.out, HN.out]; simp), rfl⟩

set_option maxHeartbeats 400000 in
theorem i_Block_compare (x y : DBlock) (w : World) :
    Calls Tryz.prog 27 #[.agg #[.string x.fKind, .string x.fName, .string x.fText], .agg #[.string y.fKind, .string y.fName, .string y.fText]] w fun e w' => e = .returned (.int .i64 (cmpBl x y)) ∧ Below w.heap.size w w' := by
  have hK : Hid (Lib.compareBytes x.fKind.data.toList y.fKind.data.toList = cmpS x.fKind y.fKind) := Lib.hid rfl
  have hN : Hid (Lib.compareBytes x.fName.data.toList y.fName.data.toList = cmpS x.fName y.fName) := Lib.hid rfl
  go_enter Tryz.func27, Tryz.ntmps27
  go_wp2_with fail
  refine (Tryz.strings_Compare x.fKind y.fKind _).mono ?_
  rintro e w' ⟨rfl, hw⟩
  subst hw
  rw [hK.out]
  by_cases h : cmpS x.fKind y.fKind = 0
  · have E : Hid (cmpBl x y = cmpS x.fName y.fName) := Lib.hid (by unfold cmpBl; rw [if_neg (by simpa using h)])
    rw [h]
    go_wp2_with fail
    refine (Tryz.strings_Compare x.fName y.fName _).mono ?_
    rintro e w' ⟨rfl, hw⟩
    subst hw
    rw [hN.out]
    go_wp2
    go_ret
    exact ⟨ret_int E.out.symm, by (repeat (first | exact Below.refl _ _ | assumption | refine Below.drew ?_ | refine Below.alloc ?_ (by first | omega | (simp; done) | (simp; omega) | exact Below.size (by assumption)) _ | refine Below.setCell ?_ (by first | omega | (simp; done) | (simp; omega)) _))⟩
  · have E : Hid (cmpBl x y = cmpS x.fKind y.fKind) := Lib.hid (by unfold cmpBl; rw [if_pos h])
    have h1 : (cmpS x.fKind y.fKind != 0) = true := by rw [bne_iff_ne]; exact h
    clear h
    go_wp2
    go_ret
    exact ⟨ret_int E.out.symm, by (repeat (first | exact Below.refl _ _ | assumption | refine Below.drew ?_ | refine Below.alloc ?_ (by first | omega | (simp; done) | (simp; omega) | exact Below.size (by assumption)) _ | refine Below.setCell ?_ (by first | omega | (simp; done) | (simp; omega)) _))⟩

theorem before_eq (x y : DBlock) : (ltS x.fKind y.fKind || (decide (x.fKind = y.fKind) && ltS x.fName y.fName)) = decide (cmpBl x y < 0) := by
  rw [ltS_cmp, ltS_cmp]
  unfold cmpBl
  have h0 := cmpS_zero x.fKind y.fKind
  by_cases h : cmpS x.fKind y.fKind = 0
  · rw [if_neg (by simpa using h), decide_eq_true (h0.1 h), decide_eq_false (p := cmpS x.fKind y.fKind < 0) (by omega)]
    simp
  · rw [if_pos h, decide_eq_false (p := x.fKind = y.fKind) (fun e => h (h0.2 e))]
    simp

set_option maxHeartbeats 1000000 in
theorem s_l29Before (b off b' off' : Nat) (x y : DBlock) (w : World) (hc : w.rangeAt b off (blockE.cells x)) (hd : w.rangeAt b' off' (blockE.cells y)) :
    Calls Tryz.prog 24 #[.pointer (some ⟨b, off, none⟩), .pointer (some ⟨b', off', none⟩)] w fun e w' => e = .returned (.bool (decide (cmpBl x y < 0))) ∧ ∃ m, w' = w.drewN m := by
  have hc0 := hc 0 (.string x.fKind) rfl
  have hc1 := hc 1 (.string x.fName) rfl
  have hd0 := hd 0 (.string y.fKind) rfl
  have hd1 := hd 1 (.string y.fName) rfl
  rw [Nat.add_zero] at hc0 hd0
  clear hc hd
  have E := Lib.hid (before_eq x y)
  rcases h1 : Op.bytesLess x.fKind.toList y.fKind.toList with _ | _
  · have L1 : Hid (ltS x.fKind y.fKind = false) := Lib.hid h1
    by_cases h2 : x.fKind = y.fKind
    · have L2 := Lib.hid h2
      have h2' : (x.fKind.toList == y.fKind.toList) = true := by rw [h2]; exact beq_self_eq_true _
      clear h2
      rcases h3 : Op.bytesLess x.fName.toList y.fName.toList with _ | _
      · have L3 : Hid (ltS x.fName y.fName = false) := Lib.hid h3
        go_enter Tryz.func24, Tryz.ntmps24
        go_wp2_with fail
        go_quiet (fail)
        go_wp2
        go_ret
        exact ⟨ret_bool (by rw [← E.out, L1.out, L3.out]; simp), ⟨_, rfl⟩⟩
      · have L3 : Hid (ltS x.fName y.fName = true) := Lib.hid h3
        go_enter Tryz.func24, Tryz.ntmps24
        go_wp2_with fail
        go_quiet (fail)
        go_wp2
        go_ret
        exact ⟨ret_bool (by rw [← E.out, L1.out, L3.out, decide_eq_true L2.out]; rfl), ⟨_, rfl⟩⟩
    · have L2 := Lib.hid h2
      have h2' : (x.fKind.toList == y.fKind.toList) = false := by rw [eqS_iff]; exact decide_eq_false h2
      clear h2
      go_enter Tryz.func24, Tryz.ntmps24
      go_wp2_with fail
      go_quiet (fail)
      go_wp2
      go_ret
      exact ⟨ret_bool (by rw [← E.out, L1.out, decide_eq_false L2.out]; rfl), ⟨_, rfl⟩⟩
  · have L1 : Hid (ltS x.fKind y.fKind = true) := Lib.hid h1
    go_enter Tryz.func24, Tryz.ntmps24
    go_wp2_with fail
    go_quiet (fail)
    go_wp2
    go_ret
    exact ⟨ret_bool (by rw [← E.out, L1.out]; rfl), ⟨_, rfl⟩⟩

def blocksB (l : List DBlock) : Bool := chainB blockB (fun x y => decide (cmpBl x y < 0)) none l && decide ((l.length : Int) ≤ 32)
theorem before_quiet (b off b' off' : Nat) (x y : DBlock) (r : Bool) (hr : decide (cmpBl x y < 0) = r) (w : World) (n : Nat) (hc : w.rangeAt b off (blockE.cells x)) (hd : w.rangeAt b' off' (blockE.cells y)) :
    Calls Tryz.prog 24 #[.pointer (some ⟨b, off, none⟩), .pointer (some ⟨b', off', none⟩)] (w.drewN n) fun e w'' => e = .returned (.bool r) ∧ ∃ m, w'' = w.drewN m := by
  subst hr
  exact Calls.quiet_of (s_l29Before b off b' off' x y (w.drewN n) hc hd)
theorem one_quiet (b off : Nat) (x : DBlock) (r : Bool) (hr : blockB x = r) (w : World) (n : Nat) (hg : x.good) (hc : w.rangeAt b off (blockE.cells x)) :
    Calls Tryz.prog 23 #[.pointer (some ⟨b, off, none⟩)] (w.drewN n) fun e w'' => e = .returned (.bool r) ∧ ∃ m, w'' = w.drewN m := by
  subst hr
  exact quiet_left (s_l29One b off x (w.drewN n) hg hc)
set_option maxHeartbeats 1000000 in
theorem s_l29Ok (A : Option Addr) (n c : Nat) (l : List DBlock) (w : World) (hr : Rd blockE w A n l) (hn : n ≤ maxLen) (hg : ∀ x ∈ l, x.good) :
    Calls Tryz.prog 14 #[.slice A n c] w (RetB (blocksB l) w) := by
  unfold maxLen at hn
  have Hl := Lib.hid hr.1
  have HG := Lib.hid hg; clear hg
  go_enter Tryz.func14, Tryz.ntmps14
  go_wp2_with fail
  go_loopw [3] (fun i wr => ∃ k : Nat, k ≤ n ∧ i = .int .i64 k ∧ Below w.heap.size w wr ∧ Hid (chainB blockB (fun x y => decide (cmpBl x y < 0)) none l = chainB blockB (fun x y => decide (cmpBl x y < 0)) (prevOf l k) (l.drop k))) (fun i _ => n - (intOf i).toNat)
  case atStart => exact ⟨0, Nat.zero_le _, rfl, Below.refl _ _, Lib.hid rfl⟩
  case round =>
    obtain ⟨k, hk, rfl, hb, HH⟩ := hrel
    by_cases hlt : k < n
    · obtain ⟨b, off, rfl, hcs⟩ := hr.2 (by omega)
      obtain ⟨x, hx⟩ : ∃ x, l[k]? = some x := ⟨_, List.getElem?_eq_getElem (by have := Hl.out; omega)⟩
      have HX := Lib.hid (range_below (B := 0) (hcs k x hx) hb)
      have HGx := Lib.hid (HG.out x (mem_of_get hx))
      rcases hbx : blockB x with _ | _
      · have HB := Lib.hid hbx; clear hbx
        have E : Hid (blocksB l = false) := Lib.hid (by
          unfold blocksB
          rw [HH.out]
          match k with
          | 0 => rw [chain_first hx, HB.out]; rfl
          | j + 1 =>
            obtain ⟨p, hp⟩ : ∃ p, l[j]? = some p := ⟨_, List.getElem?_eq_getElem (by have := Hl.out; omega)⟩
            rw [chain_next hp hx, HB.out]; rfl)
        clear hx hcs
        go_wp2_with fail
        go_quiet ((go_at_call 23; exact one_quiet _ _ x false HB.out _ _ HGx.out HX.out))
        go_wp2
        go_ret
        exact ⟨ret_bool E.out.symm, below_drewN hb _⟩
      · have HB := Lib.hid hbx; clear hbx
        match k, hk, hlt, hx, HX, HH with
        | 0, hk, hlt, hx, HX, HH =>
          have HC : Hid (chainB blockB (fun x y => decide (cmpBl x y < 0)) none l = chainB blockB (fun x y => decide (cmpBl x y < 0)) (prevOf l 1) (l.drop 1)) := Lib.hid (by rw [HH.out, chain_first hx, HB.out]; rfl)
          clear hx hcs HH
          go_wp2_with fail
          go_quiet ((go_at_call 23; exact one_quiet _ _ x true HB.out _ _ HGx.out HX.out))
          go_wp2
          first | (refine ⟨⟨1, by omega, by go_num, below_drewN hb _, HC⟩, ?_⟩; (simp [intOf]; omega)) | (go_roundw; (case rel => first | exact ⟨1, by omega, by go_num, below_drewN hb _, HC⟩ | ((try refine ⟨trivial, ?_⟩); (repeat apply Exists.intro); exact ⟨⟨1, by omega, by go_num, below_drewN hb _, HC⟩, rfl⟩)); (case measure => (simp [intOf]; omega)))
        | j + 1, hk, hlt, hx, HX, HH =>
          obtain ⟨p, hp⟩ : ∃ p, l[j]? = some p := ⟨_, List.getElem?_eq_getElem (by have := Hl.out; omega)⟩
          have HP := Lib.hid (range_below (B := 0) (hcs j p hp) hb)
          have HC := HH.out.trans (chain_next hp hx)
          rcases hlt' : decide (cmpBl p x < 0) with _ | _
          · have HL := Lib.hid hlt'
            have E : Hid (blocksB l = false) := Lib.hid (by unfold blocksB; rw [HC, HB.out, hlt']; rfl)
            clear hx hcs HH HC hlt' hp
            go_wp2_with fail
            go_quiet ((first | (go_at_call 23; exact one_quiet _ _ x true HB.out _ _ HGx.out HX.out) | (go_at_call 24; exact before_quiet _ _ _ _ p x false HL.out _ _ HP.out HX.out)))
            go_wp2
            go_ret
            exact ⟨ret_bool E.out.symm, below_drewN hb _⟩
          · have HL := Lib.hid hlt'
            have HC' : Hid (chainB blockB (fun x y => decide (cmpBl x y < 0)) none l = chainB blockB (fun x y => decide (cmpBl x y < 0)) (prevOf l (j + 2)) (l.drop (j + 2))) := Lib.hid (by rw [HC, HB.out, hlt']; rfl)
            clear hx hcs HH HC hlt' hp
            go_wp2_with fail
            go_quiet ((first | (go_at_call 23; exact one_quiet _ _ x true HB.out _ _ HGx.out HX.out) | (go_at_call 24; exact before_quiet _ _ _ _ p x true HL.out _ _ HP.out HX.out)))
            go_wp2
            first | (refine ⟨⟨j + 2, by omega, by go_num, below_drewN hb _, HC'⟩, ?_⟩; (simp [intOf]; omega)) | (go_roundw; (case rel => first | exact ⟨j + 2, by omega, by go_num, below_drewN hb _, HC'⟩ | ((try refine ⟨trivial, ?_⟩); (repeat apply Exists.intro); exact ⟨⟨j + 2, by omega, by go_num, below_drewN hb _, HC'⟩, rfl⟩)); (case measure => (simp [intOf]; omega)))
    · have E : Hid (blocksB l = decide ((n : Int) ≤ 32)) := Lib.hid (by
        unfold blocksB
        rw [HH.out, List.drop_of_length_le (by have := Hl.out; omega), Hl.out]
        rfl)
      go_wp2
      go_ret
      exact ⟨ret_bool E.out.symm, hb⟩

set_option maxHeartbeats 2000000 in
theorem i_ValidBlocks (A : Option Addr) (n c : Nat) (l : List DBlock) (w : World) (hr : Rd blockE w A n l) (hn : n ≤ maxLen) (hg : ∀ x ∈ l, x.good) :
    Calls Tryz.prog 17 #[.slice A n c] w (RetB (blocksB l) w) := by
  unfold maxLen at hn
  have Hl := Lib.hid hr.1
  have HG := Lib.hid hg; clear hg
  go_enter Tryz.func17, Tryz.ntmps17
  go_wp2_with fail
  go_loopw [7] (fun i wr => ∃ k : Nat, k ≤ n ∧ i = .int .i64 k ∧ Below w.heap.size w wr ∧ Hid (chainB blockB (fun x y => decide (cmpBl x y < 0)) none l = chainB blockB (fun x y => decide (cmpBl x y < 0)) (prevOf l k) (l.drop k))) (fun i _ => n - (intOf i).toNat)
  case atStart => exact ⟨0, Nat.zero_le _, rfl, Below.refl _ _, Lib.hid rfl⟩
  case round =>
    obtain ⟨k, hk, rfl, hb, HH⟩ := hrel
    by_cases hlt : k < n
    · obtain ⟨b, off, rfl, hcs⟩ := hr.2 (by omega)
      obtain ⟨x, hx⟩ : ∃ x, l[k]? = some x := ⟨_, List.getElem?_eq_getElem (by have := Hl.out; omega)⟩
      have hcr := range_below (B := 0) (hcs k x hx) hb
      have hc0 := hcr 0 (.string x.fKind) rfl
      have hc1 := hcr 1 (.string x.fName) rfl
      have hc2 := hcr 2 (.string x.fText) rfl
      simp only [blockE, Nat.add_zero] at hc0 hc1 hc2
      clear hcr
      have HGx := Lib.hid (HG.out x (mem_of_get hx))
      have HV : Hid (∀ W, Calls Tryz.prog 26 #[.agg #[.string x.fKind, .string x.fName, .string x.fText]] W (RetB (blockB x) W)) := Lib.hid (fun W => i_ValidBlock x W HGx.out)
      rcases hbx : blockB x with _ | _
      · have HB := Lib.hid hbx
        rw [hbx] at HV
        clear hbx
        have E : Hid (blocksB l = false) := Lib.hid (by
          unfold blocksB
          rw [HH.out]
          match k with
          | 0 => rw [chain_first hx, HB.out]; rfl
          | j + 1 =>
            obtain ⟨p, hp⟩ : ∃ p, l[j]? = some p := ⟨_, List.getElem?_eq_getElem (by have := Hl.out; omega)⟩
            rw [chain_next hp hx, HB.out]; rfl)
        clear hx hcs
        have hcx := range_new wr #[.string x.fKind, .string x.fName, .string x.fText] 38
        have hb0 : Below w.heap.size w (wr.alloc (.cells #[.string x.fKind, .string x.fName, .string x.fText] 38)) := hb.alloc hb.size _
        have hba : Below wr.heap.size wr (wr.alloc (.cells #[.string x.fKind, .string x.fName, .string x.fText] 38)) := (Below.refl _ _).alloc (Nat.le_refl _) _
        obtain ⟨W0, hW0⟩ : ∃ W0, wr.alloc (.cells #[.string x.fKind, .string x.fName, .string x.fText] 38) = W0 := ⟨_, rfl⟩
        go_wp2_with fail
        rw [hW0] at hcx hb0 hba
        have hx0 := hcx 0 (.string x.fKind) rfl
        have hx1 := hcx 1 (.string x.fName) rfl
        have hx2 := hcx 2 (.string x.fText) rfl
        simp only [Nat.zero_add] at hx0 hx1 hx2
        clear hW0 hcx hc0 hc1 hc2
        let S : World → Prop := fun w' => w'.cell? ⟨wr.heap.size, 0, none⟩ = some (.string x.fKind) ∧ w'.cell? ⟨wr.heap.size, 1, none⟩ = some (.string x.fName) ∧ w'.cell? ⟨wr.heap.size, 2, none⟩ = some (.string x.fText) ∧ Below w.heap.size w w'
        have hS : S (World.drew W0) := ⟨hx0, hx1, hx2, (hb0).drew⟩
        have hne : Nonempty (Wd S) := ⟨⟨_, hS⟩⟩
        have qc0 : ∀ t : Wd S, t.w.cell? ⟨wr.heap.size, 0, none⟩ = some (.string x.fKind) := fun t => t.h.1
        have qc1 : ∀ t : Wd S, t.w.cell? ⟨wr.heap.size, 1, none⟩ = some (.string x.fName) := fun t => t.h.2.1
        have qc2 : ∀ t : Wd S, t.w.cell? ⟨wr.heap.size, 2, none⟩ = some (.string x.fText) := fun t => t.h.2.2.1
        have Q9 : Hid (∀ (t : Wd S) (w' : World), Below t.w.heap.size t.w w' → S w') := Lib.hid (fun t w' h => ⟨cell_later h t.h.1, cell_later h t.h.2.1, cell_later h t.h.2.2.1, t.h.2.2.2.trans (h.mono t.h.2.2.2.size)⟩)
        have QE : Hid (∀ w', S w' → w'.cell? ⟨wr.heap.size, 0, none⟩ = some (.string x.fKind) ∧ w'.cell? ⟨wr.heap.size, 1, none⟩ = some (.string x.fName) ∧ w'.cell? ⟨wr.heap.size, 2, none⟩ = some (.string x.fText) ∧ Below w.heap.size w w') := Lib.hid (fun w' h => h)
        refine wp_region_class S (by kernel_rfl) (by kernel_rfl) hS ?_
        clear_value S
        repeat (go_big_quiet_step ((first | (go_at_call 26; exact class_call _ (HV.out _) (fun e w' h => ⟨h.1, Q9.out _ _ h.2⟩)))))
        refine wpQuiet_nil ?_
        rintro _ ⟨⟨w1, hw1⟩, rfl⟩
        have hE := QE.out _ hw1
        have hb2 := hE.2.2.2
        clear hE
        try dsimp only
        clear hw1 hS hne Q9 QE qc0 qc1 qc2
        go_wp2
        go_ret
        exact ⟨ret_bool E.out.symm, hb2⟩
      · have HB := Lib.hid hbx
        rw [hbx] at HV
        clear hbx
        match k, hk, hlt, hx, HH, hc0, hc1, hc2 with
        | 0, hk, hlt, hx, HH, hc0, hc1, hc2 =>
          rw [Nat.zero_mul, Nat.add_zero] at hc0 hc1 hc2
          have HC : Hid (chainB blockB (fun x y => decide (cmpBl x y < 0)) none l = chainB blockB (fun x y => decide (cmpBl x y < 0)) (prevOf l 1) (l.drop 1)) := Lib.hid (by rw [HH.out, chain_first hx, HB.out]; rfl)
          clear hx hcs HH
          have hcx := range_new wr #[.string x.fKind, .string x.fName, .string x.fText] 38
          have hb0 : Below w.heap.size w (wr.alloc (.cells #[.string x.fKind, .string x.fName, .string x.fText] 38)) := hb.alloc hb.size _
          have hba : Below wr.heap.size wr (wr.alloc (.cells #[.string x.fKind, .string x.fName, .string x.fText] 38)) := (Below.refl _ _).alloc (Nat.le_refl _) _
          obtain ⟨W0, hW0⟩ : ∃ W0, wr.alloc (.cells #[.string x.fKind, .string x.fName, .string x.fText] 38) = W0 := ⟨_, rfl⟩
          go_wp2_with fail
          rw [hW0] at hcx hb0 hba
          have hx0 := hcx 0 (.string x.fKind) rfl
          have hx1 := hcx 1 (.string x.fName) rfl
          have hx2 := hcx 2 (.string x.fText) rfl
          simp only [Nat.zero_add] at hx0 hx1 hx2
          clear hW0 hcx hc0 hc1 hc2
          let S : World → Prop := fun w' => w'.cell? ⟨wr.heap.size, 0, none⟩ = some (.string x.fKind) ∧ w'.cell? ⟨wr.heap.size, 1, none⟩ = some (.string x.fName) ∧ w'.cell? ⟨wr.heap.size, 2, none⟩ = some (.string x.fText) ∧ Below w.heap.size w w'
          have hS : S (World.drew W0) := ⟨hx0, hx1, hx2, (hb0).drew⟩
          have hne : Nonempty (Wd S) := ⟨⟨_, hS⟩⟩
          have qc0 : ∀ t : Wd S, t.w.cell? ⟨wr.heap.size, 0, none⟩ = some (.string x.fKind) := fun t => t.h.1
          have qc1 : ∀ t : Wd S, t.w.cell? ⟨wr.heap.size, 1, none⟩ = some (.string x.fName) := fun t => t.h.2.1
          have qc2 : ∀ t : Wd S, t.w.cell? ⟨wr.heap.size, 2, none⟩ = some (.string x.fText) := fun t => t.h.2.2.1
          have Q9 : Hid (∀ (t : Wd S) (w' : World), Below t.w.heap.size t.w w' → S w') := Lib.hid (fun t w' h => ⟨cell_later h t.h.1, cell_later h t.h.2.1, cell_later h t.h.2.2.1, t.h.2.2.2.trans (h.mono t.h.2.2.2.size)⟩)
          have QE : Hid (∀ w', S w' → w'.cell? ⟨wr.heap.size, 0, none⟩ = some (.string x.fKind) ∧ w'.cell? ⟨wr.heap.size, 1, none⟩ = some (.string x.fName) ∧ w'.cell? ⟨wr.heap.size, 2, none⟩ = some (.string x.fText) ∧ Below w.heap.size w w') := Lib.hid (fun w' h => h)
          refine wp_region_class S (by kernel_rfl) (by kernel_rfl) hS ?_
          clear_value S
          repeat (go_big_quiet_step ((first | (go_at_call 26; exact class_call _ (HV.out _) (fun e w' h => ⟨h.1, Q9.out _ _ h.2⟩)))))
          refine wpQuiet_nil ?_
          rintro _ ⟨⟨w1, hw1⟩, rfl⟩
          have hE := QE.out _ hw1
          have hb2 := hE.2.2.2
          clear hE
          try dsimp only
          clear hw1 hS hne Q9 QE qc0 qc1 qc2
          go_wp2
          first | (refine ⟨⟨1, by omega, by go_num, hb2, HC⟩, ?_⟩; (simp [intOf]; omega)) | (go_roundw; (case rel => first | exact ⟨1, by omega, by go_num, hb2, HC⟩ | ((try refine ⟨trivial, ?_⟩); (repeat apply Exists.intro); exact ⟨⟨1, by omega, by go_num, hb2, HC⟩, rfl⟩)); (case measure => (simp [intOf]; omega)))
        | j + 1, hk, hlt, hx, HH, hc0, hc1, hc2 =>
          obtain ⟨p, hp⟩ : ∃ p, l[j]? = some p := ⟨_, List.getElem?_eq_getElem (by have := Hl.out; omega)⟩
          have HP := Lib.hid (range_below (B := 0) (hcs j p hp) hb)
          have HC := HH.out.trans (chain_next hp hx)
          have HM : Hid (∀ W, Calls Tryz.prog 27 #[.agg #[.string p.fKind, .string p.fName, .string p.fText], .agg #[.string x.fKind, .string x.fName, .string x.fText]] W fun e w' => e = .returned (.int .i64 (cmpBl p x)) ∧ Below W.heap.size W w') := Lib.hid (fun W => i_Block_compare p x W)
          by_cases hcmp : cmpBl p x < 0
          · have HC' : Hid (chainB blockB (fun x y => decide (cmpBl x y < 0)) none l = chainB blockB (fun x y => decide (cmpBl x y < 0)) (prevOf l (j + 2)) (l.drop (j + 2))) := Lib.hid (by rw [HC, HB.out, decide_eq_true hcmp]; rfl)
            have hcg : ¬ (0 : Int) ≤ cmpBl p x := by omega
            clear hx hcs HH HC hp
            have hcx := range_new wr #[.string x.fKind, .string x.fName, .string x.fText] 38
            have hb0 : Below w.heap.size w (wr.alloc (.cells #[.string x.fKind, .string x.fName, .string x.fText] 38)) := hb.alloc hb.size _
            have hba : Below wr.heap.size wr (wr.alloc (.cells #[.string x.fKind, .string x.fName, .string x.fText] 38)) := (Below.refl _ _).alloc (Nat.le_refl _) _
            obtain ⟨W0, hW0⟩ : ∃ W0, wr.alloc (.cells #[.string x.fKind, .string x.fName, .string x.fText] 38) = W0 := ⟨_, rfl⟩
            go_wp2_with fail
            rw [hW0] at hcx hb0 hba
            have hx0 := hcx 0 (.string x.fKind) rfl
            have hx1 := hcx 1 (.string x.fName) rfl
            have hx2 := hcx 2 (.string x.fText) rfl
            simp only [Nat.zero_add] at hx0 hx1 hx2
            clear hW0 hcx hc0 hc1 hc2
            have hp0 := range_below (B := 0) HP.out hba 0 (.string p.fKind) rfl
            have hp1 := range_below (B := 0) HP.out hba 1 (.string p.fName) rfl
            have hp2 := range_below (B := 0) HP.out hba 2 (.string p.fText) rfl
            simp only [blockE, Nat.add_zero] at hp0 hp1 hp2
            let S : World → Prop := fun w' => w'.cell? ⟨wr.heap.size, 0, none⟩ = some (.string x.fKind) ∧ w'.cell? ⟨wr.heap.size, 1, none⟩ = some (.string x.fName) ∧ w'.cell? ⟨wr.heap.size, 2, none⟩ = some (.string x.fText) ∧ w'.cell? ⟨b, off + j * 3, none⟩ = some (.string p.fKind) ∧ w'.cell? ⟨b, off + j * 3 + 1, none⟩ = some (.string p.fName) ∧ w'.cell? ⟨b, off + j * 3 + 2, none⟩ = some (.string p.fText) ∧ Below w.heap.size w w'
            have hS : S (World.drew W0) := ⟨hx0, hx1, hx2, hp0, hp1, hp2, (hb0).drew⟩
            have hne : Nonempty (Wd S) := ⟨⟨_, hS⟩⟩
            have qc0 : ∀ t : Wd S, t.w.cell? ⟨wr.heap.size, 0, none⟩ = some (.string x.fKind) := fun t => t.h.1
            have qc1 : ∀ t : Wd S, t.w.cell? ⟨wr.heap.size, 1, none⟩ = some (.string x.fName) := fun t => t.h.2.1
            have qc2 : ∀ t : Wd S, t.w.cell? ⟨wr.heap.size, 2, none⟩ = some (.string x.fText) := fun t => t.h.2.2.1
            have qc3 : ∀ t : Wd S, t.w.cell? ⟨b, off + j * 3, none⟩ = some (.string p.fKind) := fun t => t.h.2.2.2.1
            have qc4 : ∀ t : Wd S, t.w.cell? ⟨b, off + j * 3 + 1, none⟩ = some (.string p.fName) := fun t => t.h.2.2.2.2.1
            have qc5 : ∀ t : Wd S, t.w.cell? ⟨b, off + j * 3 + 2, none⟩ = some (.string p.fText) := fun t => t.h.2.2.2.2.2.1
            have Q9 : Hid (∀ (t : Wd S) (w' : World), Below t.w.heap.size t.w w' → S w') := Lib.hid (fun t w' h => ⟨cell_later h t.h.1, cell_later h t.h.2.1, cell_later h t.h.2.2.1, cell_later h t.h.2.2.2.1, cell_later h t.h.2.2.2.2.1, cell_later h t.h.2.2.2.2.2.1, t.h.2.2.2.2.2.2.trans (h.mono t.h.2.2.2.2.2.2.size)⟩)
            have QE : Hid (∀ w', S w' → w'.cell? ⟨wr.heap.size, 0, none⟩ = some (.string x.fKind) ∧ w'.cell? ⟨wr.heap.size, 1, none⟩ = some (.string x.fName) ∧ w'.cell? ⟨wr.heap.size, 2, none⟩ = some (.string x.fText) ∧ w'.cell? ⟨b, off + j * 3, none⟩ = some (.string p.fKind) ∧ w'.cell? ⟨b, off + j * 3 + 1, none⟩ = some (.string p.fName) ∧ w'.cell? ⟨b, off + j * 3 + 2, none⟩ = some (.string p.fText) ∧ Below w.heap.size w w') := Lib.hid (fun w' h => h)
            refine wp_region_class S (by kernel_rfl) (by kernel_rfl) hS ?_
            clear_value S
            repeat (go_big_quiet_step ((first | (go_at_call 26; exact class_call _ (HV.out _) (fun e w' h => ⟨h.1, Q9.out _ _ h.2⟩)) | (go_at_call 27; exact class_call _ (HM.out _) (fun e w' h => ⟨h.1, Q9.out _ _ h.2⟩)))))
            refine wpQuiet_nil ?_
            rintro _ ⟨⟨w1, hw1⟩, rfl⟩
            have hE := QE.out _ hw1
            have hb2 := hE.2.2.2.2.2.2
            clear hE
            try dsimp only
            clear hw1 hS hne Q9 QE qc0 qc1 qc2 qc3 qc4 qc5
            go_wp2
            first | (refine ⟨⟨j + 2, by omega, by go_num, hb2, HC'⟩, ?_⟩; (simp [intOf]; omega)) | (go_roundw; (case rel => first | exact ⟨j + 2, by omega, by go_num, hb2, HC'⟩ | ((try refine ⟨trivial, ?_⟩); (repeat apply Exists.intro); exact ⟨⟨j + 2, by omega, by go_num, hb2, HC'⟩, rfl⟩)); (case measure => (simp [intOf]; omega)))
          · have E : Hid (blocksB l = false) := Lib.hid (by unfold blocksB; rw [HC, HB.out, decide_eq_false hcmp]; rfl)
            have hcg : (0 : Int) ≤ cmpBl p x := by omega
            clear hx hcs HH HC hp
            have hcx := range_new wr #[.string x.fKind, .string x.fName, .string x.fText] 38
            have hb0 : Below w.heap.size w (wr.alloc (.cells #[.string x.fKind, .string x.fName, .string x.fText] 38)) := hb.alloc hb.size _
            have hba : Below wr.heap.size wr (wr.alloc (.cells #[.string x.fKind, .string x.fName, .string x.fText] 38)) := (Below.refl _ _).alloc (Nat.le_refl _) _
            obtain ⟨W0, hW0⟩ : ∃ W0, wr.alloc (.cells #[.string x.fKind, .string x.fName, .string x.fText] 38) = W0 := ⟨_, rfl⟩
            go_wp2_with fail
            rw [hW0] at hcx hb0 hba
            have hx0 := hcx 0 (.string x.fKind) rfl
            have hx1 := hcx 1 (.string x.fName) rfl
            have hx2 := hcx 2 (.string x.fText) rfl
            simp only [Nat.zero_add] at hx0 hx1 hx2
            clear hW0 hcx hc0 hc1 hc2
            have hp0 := range_below (B := 0) HP.out hba 0 (.string p.fKind) rfl
            have hp1 := range_below (B := 0) HP.out hba 1 (.string p.fName) rfl
            have hp2 := range_below (B := 0) HP.out hba 2 (.string p.fText) rfl
            simp only [blockE, Nat.add_zero] at hp0 hp1 hp2
            let S : World → Prop := fun w' => w'.cell? ⟨wr.heap.size, 0, none⟩ = some (.string x.fKind) ∧ w'.cell? ⟨wr.heap.size, 1, none⟩ = some (.string x.fName) ∧ w'.cell? ⟨wr.heap.size, 2, none⟩ = some (.string x.fText) ∧ w'.cell? ⟨b, off + j * 3, none⟩ = some (.string p.fKind) ∧ w'.cell? ⟨b, off + j * 3 + 1, none⟩ = some (.string p.fName) ∧ w'.cell? ⟨b, off + j * 3 + 2, none⟩ = some (.string p.fText) ∧ Below w.heap.size w w'
            have hS : S (World.drew W0) := ⟨hx0, hx1, hx2, hp0, hp1, hp2, (hb0).drew⟩
            have hne : Nonempty (Wd S) := ⟨⟨_, hS⟩⟩
            have qc0 : ∀ t : Wd S, t.w.cell? ⟨wr.heap.size, 0, none⟩ = some (.string x.fKind) := fun t => t.h.1
            have qc1 : ∀ t : Wd S, t.w.cell? ⟨wr.heap.size, 1, none⟩ = some (.string x.fName) := fun t => t.h.2.1
            have qc2 : ∀ t : Wd S, t.w.cell? ⟨wr.heap.size, 2, none⟩ = some (.string x.fText) := fun t => t.h.2.2.1
            have qc3 : ∀ t : Wd S, t.w.cell? ⟨b, off + j * 3, none⟩ = some (.string p.fKind) := fun t => t.h.2.2.2.1
            have qc4 : ∀ t : Wd S, t.w.cell? ⟨b, off + j * 3 + 1, none⟩ = some (.string p.fName) := fun t => t.h.2.2.2.2.1
            have qc5 : ∀ t : Wd S, t.w.cell? ⟨b, off + j * 3 + 2, none⟩ = some (.string p.fText) := fun t => t.h.2.2.2.2.2.1
            have Q9 : Hid (∀ (t : Wd S) (w' : World), Below t.w.heap.size t.w w' → S w') := Lib.hid (fun t w' h => ⟨cell_later h t.h.1, cell_later h t.h.2.1, cell_later h t.h.2.2.1, cell_later h t.h.2.2.2.1, cell_later h t.h.2.2.2.2.1, cell_later h t.h.2.2.2.2.2.1, t.h.2.2.2.2.2.2.trans (h.mono t.h.2.2.2.2.2.2.size)⟩)
            have QE : Hid (∀ w', S w' → w'.cell? ⟨wr.heap.size, 0, none⟩ = some (.string x.fKind) ∧ w'.cell? ⟨wr.heap.size, 1, none⟩ = some (.string x.fName) ∧ w'.cell? ⟨wr.heap.size, 2, none⟩ = some (.string x.fText) ∧ w'.cell? ⟨b, off + j * 3, none⟩ = some (.string p.fKind) ∧ w'.cell? ⟨b, off + j * 3 + 1, none⟩ = some (.string p.fName) ∧ w'.cell? ⟨b, off + j * 3 + 2, none⟩ = some (.string p.fText) ∧ Below w.heap.size w w') := Lib.hid (fun w' h => h)
            refine wp_region_class S (by kernel_rfl) (by kernel_rfl) hS ?_
            clear_value S
            repeat (go_big_quiet_step ((first | (go_at_call 26; exact class_call _ (HV.out _) (fun e w' h => ⟨h.1, Q9.out _ _ h.2⟩)) | (go_at_call 27; exact class_call _ (HM.out _) (fun e w' h => ⟨h.1, Q9.out _ _ h.2⟩)))))
            refine wpQuiet_nil ?_
            rintro _ ⟨⟨w1, hw1⟩, rfl⟩
            have hE := QE.out _ hw1
            have hb2 := hE.2.2.2.2.2.2
            clear hE
            try dsimp only
            clear hw1 hS hne Q9 QE qc0 qc1 qc2 qc3 qc4 qc5
            go_wp2
            go_ret
            exact ⟨ret_bool E.out.symm, hb2⟩
    · have E : Hid (blocksB l = decide ((n : Int) ≤ 32)) := Lib.hid (by
        unfold blocksB
        rw [HH.out, List.drop_of_length_le (by have := Hl.out; omega), Hl.out]
        rfl)
      go_wp2_with fail
      refine (i_few _ _ _ (by omega) (by omega)).mono ?_
      rintro e w' ⟨rfl, rfl⟩
      go_wp2
      go_ret
      exact ⟨ret_bool E.out.symm, hb⟩

end Go.Proofs.YtndbppplkfpgnaaGreatDoor
