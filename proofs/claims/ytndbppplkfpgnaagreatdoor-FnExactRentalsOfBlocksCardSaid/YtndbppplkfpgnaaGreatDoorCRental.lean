/- Rental: how one lies, and the law files' helpers on it. -/
import Derived.Test.YtndbppplkfpgnaaGreatDoorRows
import Derived.Test.YtndbppplkfpgnaaGreatDoorMem
import Derived.Test.YtndbppplkfpgnaaGreatDoorLaw
import Derived.Test.YtndbppplkfpgnaaGreatDoorConvS
import Derived.Test.YtndbppplkfpgnaaGreatDoorMarks
import Derived.StillTailTactics
import Derived.Laws.StructEq
namespace Go.Proofs.YtndbppplkfpgnaaGreatDoor
set_option linter.unusedVariables false
set_option linter.unusedSimpArgs false
set_option linter.unusedSectionVars false
open Go.RowKit

structure DRental where
  fId : ByteArray
  fItem : ByteArray
  fDay : Int
  fMonths : Int
  fFee : Int
def rentalE : Enc DRental := ⟨5, fun x => [.string x.fId, .string x.fItem, .int .i64 x.fDay, .int .i64 x.fMonths, .int .i64 x.fFee], fun _ => rfl, by decide, fun _ u h => by simp at h; rcases h with rfl | rfl | rfl | rfl | rfl <;> rfl⟩
def DRental.val (x : DRental) : Value := .agg #[.string x.fId, .string x.fItem, .int .i64 x.fDay, .int .i64 x.fMonths, .int .i64 x.fFee]
def DRental.good (x : DRental) : Prop := x.fId.size ≤ maxLen ∧ x.fItem.size ≤ maxLen ∧ (-9223372036854775808 ≤ x.fDay ∧ x.fDay ≤ 9223372036854775807) ∧ (-9223372036854775808 ≤ x.fMonths ∧ x.fMonths ≤ 9223372036854775807) ∧ (-9223372036854775808 ≤ x.fFee ∧ x.fFee ≤ 9223372036854775807)
def DRental.sz (x : DRental) : Int := x.fId.size + x.fItem.size
def sumRental : List DRental → Int
  | [] => 0
  | x :: r => x.sz + sumRental r
theorem DRental.sz_nonneg (x : DRental) : 0 ≤ x.sz := by unfold DRental.sz; omega
theorem sumRental_nonneg (l : List DRental) : 0 ≤ sumRental l := by
  induction l with
  | nil => simp [sumRental]
  | cons s r ih => have := s.sz_nonneg; simp only [sumRental]; omega
theorem sumRental_mem {l : List DRental} {x : DRental} (h : x ∈ l) : x.sz ≤ sumRental l := by
  induction l with
  | nil => cases h
  | cons y r ih =>
    have h0 := sumRental_nonneg r
    have h1 := y.sz_nonneg
    simp only [sumRental]
    cases List.mem_cons.1 h with
    | inl e => subst e; omega
    | inr e => have := ih e; omega


/-- whether two are the same, field by field -/
def DRental.eqv (x y : DRental) : Bool := (x.fId.toList == y.fId.toList) && ((x.fItem.toList == y.fItem.toList) && ((x.fDay == y.fDay) && ((x.fMonths == y.fMonths) && (x.fFee == y.fFee))))
theorem DRental.eqv_iff (x y : DRental) : x.eqv y = true ↔ x = y := by
  constructor
  · intro h
    simp only [DRental.eqv, Bool.and_eq_true, beq_iff_eq] at h
    obtain ⟨e0, e1, e2, e3, e4⟩ := h
    cases x; cases y
    simp only [DRental.mk.injEq]
    exact ⟨ba_ext (by simpa [ByteArray.toList_eq] using e0), ba_ext (by simpa [ByteArray.toList_eq] using e1), e2, e3, e4⟩
  · rintro rfl
    simp [DRental.eqv]

theorem run_eql_Rental (x y : DRental) (w : World) : (binOp .eql 40 (.agg #[.string x.fId, .string x.fItem, .int .i64 x.fDay, .int .i64 x.fMonths, .int .i64 x.fFee]) (.agg #[.string y.fId, .string y.fItem, .int .i64 y.fDay, .int .i64 y.fMonths, .int .i64 y.fFee])).run Tryz.prog w = .ok (.bool (x.eqv y)) w := by
  have hS : Tryz.prog.underlying 40 = some (.struct (Tryz.prog.fieldsOf 40)) := by kernel_rfl
  have hp : Tryz.prog.stoodInHeld 40 = false := by kernel_rfl
  rw [run_eql_struct, show (10000 : Nat) = 9999 + 1 from rfl, run_equalIn_agg w 9999 40 _ _ hS hp]
  simp only [Program.fieldsOf, Tryz.underlying40]
  go_simp
  unfold DRental.eqv
  rcases h0 : (x.fId.toList == y.fId.toList) with _ | _ <;> rcases h1 : (x.fItem.toList == y.fItem.toList) with _ | _ <;> rcases h2 : (x.fDay == y.fDay) with _ | _ <;> rcases h3 : (x.fMonths == y.fMonths) with _ | _ <;> rcases h4 : (x.fFee == y.fFee) with _ | _ <;> simp_all
theorem run_neq_Rental (x y : DRental) (w : World) : (binOp .neq 40 (.agg #[.string x.fId, .string x.fItem, .int .i64 x.fDay, .int .i64 x.fMonths, .int .i64 x.fFee]) (.agg #[.string y.fId, .string y.fItem, .int .i64 y.fDay, .int .i64 y.fMonths, .int .i64 y.fFee])).run Tryz.prog w = .ok (.bool (!x.eqv y)) w := by
  have hS : Tryz.prog.underlying 40 = some (.struct (Tryz.prog.fieldsOf 40)) := by kernel_rfl
  have hp : Tryz.prog.stoodInHeld 40 = false := by kernel_rfl
  rw [run_neq_struct, show (10000 : Nat) = 9999 + 1 from rfl, run_equalIn_agg w 9999 40 _ _ hS hp]
  simp only [Program.fieldsOf, Tryz.underlying40]
  go_simp
  unfold DRental.eqv
  rcases h0 : (x.fId.toList == y.fId.toList) with _ | _ <;> rcases h1 : (x.fItem.toList == y.fItem.toList) with _ | _ <;> rcases h2 : (x.fDay == y.fDay) with _ | _ <;> rcases h3 : (x.fMonths == y.fMonths) with _ | _ <;> rcases h4 : (x.fFee == y.fFee) with _ | _ <;> simp_all

set_option maxHeartbeats 400000 in
theorem l_eqRental (x : DRental) (w : World) :
    Calls Tryz.prog 20 #[.agg #[.string x.fId, .string x.fItem, .int .i64 x.fDay, .int .i64 x.fMonths, .int .i64 x.fFee], .agg #[.string x.fId, .string x.fItem, .int .i64 x.fDay, .int .i64 x.fMonths, .int .i64 x.fFee]] w (RetB true w) := by
  go_enter Tryz.func20, Tryz.ntmps20
  go_wp2
  go_ret
  exact ⟨rfl, by (repeat (first | exact Below.refl _ _ | assumption | refine Below.drew ?_ | refine Below.alloc ?_ (by first | omega | (simp; done) | (simp; omega) | exact Below.size (by assumption)) _ | refine Below.setCell ?_ (by first | omega | (simp; done) | (simp; omega)) _))⟩

set_option maxRecDepth 100000 in
set_option maxHeartbeats 400000 in
theorem l_eqRentalS (A A' : Option Addr) (n c c' : Nat) (l : List DRental) (w : World) (hr : Rd rentalE w A n l) (hr' : Rd rentalE w A' n l) (hn : n ≤ maxLen) :
    Calls Tryz.prog 8 #[.slice A n c, .slice A' n c'] w (RetB true w) := by
  unfold maxLen at hn
  go_enter Tryz.func8, Tryz.ntmps8
  go_wp2
  go_loopw [5] (fun i wr => ∃ k : Nat, k ≤ n ∧ i = .int .i64 k ∧ Below w.heap.size w wr) (fun i _ => n - (intOf i).toNat)
  case atStart => exact ⟨0, Nat.zero_le _, rfl, by (repeat (first | exact Below.refl _ _ | assumption | refine Below.drew ?_ | refine Below.alloc ?_ (by first | omega | (simp; done) | (simp; omega) | exact Below.size (by assumption)) _ | refine Below.setCell ?_ (by first | omega | (simp; done) | (simp; omega)) _))⟩
  case round =>
    obtain ⟨k, hk, rfl, hb⟩ := hrel
    by_cases hkn : k < n
    · obtain ⟨b, off, x, rfl, hks, hc⟩ := hr.get hkn
      obtain ⟨b', off', x', rfl, hks', hc'⟩ := hr'.get hkn
      obtain rfl : x = x' := Option.some.inj (hks.symm.trans hks')
      have hc0 := range_below (B := 0) hc hb 0 _ rfl
      have hc1 := range_below (B := 0) hc hb 1 _ rfl
      have hc2 := range_below (B := 0) hc hb 2 _ rfl
      have hc3 := range_below (B := 0) hc hb 3 _ rfl
      have hc4 := range_below (B := 0) hc hb 4 _ rfl
      simp only [rentalE, Nat.add_zero] at hc0 hc1 hc2 hc3 hc4
      have hd0 := range_below (B := 0) hc' hb 0 _ rfl
      have hd1 := range_below (B := 0) hc' hb 1 _ rfl
      have hd2 := range_below (B := 0) hc' hb 2 _ rfl
      have hd3 := range_below (B := 0) hc' hb 3 _ rfl
      have hd4 := range_below (B := 0) hc' hb 4 _ rfl
      simp only [rentalE, Nat.add_zero] at hd0 hd1 hd2 hd3 hd4
      clear hc hc' hks hks'
      go_wp2_with fail
      go_still_tail 8, (by kernel_rfl)
      change wpList _ _ _ _ _ wr.drew
      go_wp2_with fail
      refine (l_eqRental x _).mono ?_
      rintro e w1 ⟨rfl, hb1⟩
      have hb2 := hb.drew.trans (hb1.mono hb.size)
      go_wp2
      first | (refine ⟨⟨k + 1, by omega, by go_num, hb2⟩, ?_⟩; (simp [intOf]; omega)) | (go_roundw; (case rel => first | exact ⟨k + 1, by omega, by go_num, hb2⟩ | ((try refine ⟨trivial, ?_⟩); (repeat apply Exists.intro); exact ⟨⟨k + 1, by omega, by go_num, hb2⟩, rfl⟩)); (case measure => (simp [intOf]; omega)))
    · go_wp2
      go_ret
      exact ⟨rfl, hb⟩

def mark1Rental (m : Nat) : DRental := ⟨mt (m + 0), mt (m + 1), ((m + 2 : Nat) : Int), ((m + 3 : Nat) : Int), ((m + 4 : Nat) : Int)⟩
def markLRental (n k : Nat) : List DRental := (List.range n).map fun i => mark1Rental (k + 5 * i)
theorem markLRental_get (n k i : Nat) (h : i < n) : (markLRental n k)[i]? = some (mark1Rental (k + 5 * i)) := by simp [markLRental, h]
theorem markLRental_len (n k : Nat) : (markLRental n k).length = n := by simp [markLRental]

set_option maxHeartbeats 1000000 in
theorem l_markRentalS (F : Nat → Prop) (A : Option Addr) (n c : Nat) (l : List DRental) (k0 : Int) (w : World) (hO : OL rentalE 40 F w A n c l) (hn : n ≤ 34359738368) (h0 : 0 ≤ k0) (h1 : k0 ≤ 549755813888) :
    Calls Tryz.prog 11 #[.slice A n c, .int .i64 k0] w (MarkR rentalE 40 F A n c (markLRental n k0.toNat) (k0 + 5 * n) w) := by
  obtain ⟨m, rfl⟩ := Int.eq_ofNat_of_zero_le h0
  rw [Int.toNat_natCast]
  have HM := Lib.hid (markLRental_len n m)
  go_enter Tryz.func11, Tryz.ntmps11
  go_wp2_with fail
  go_loopw [1, 5] (fun t i wr => ∃ k : Nat, k ≤ n ∧ i = .int .i64 k ∧ t = .int .i64 (m + 5 * k) ∧ PartV rentalE 40 0 A n c (markLRental n m) k wr ∧ Touch F w wr) (fun _ i _ => n - (intOf i).toNat)
  case atStart => exact ⟨0, Nat.zero_le _, rfl, by go_num, PartV.start hO.1 hO.2.1, Touch.refl F w⟩
  case round =>
    obtain ⟨k, hk, rfl, rfl, hp, ht⟩ := hrel
    by_cases hkn : k < n
    · obtain ⟨g, rfl⟩ := hp.form (by omega)
      have hFg := hO.2.2 g rfl
      have HK := Lib.hid (markLRental_get n m k hkn)
      obtain ⟨zs, hz, htk, ho⟩ := hp
      have Hz := Lib.hid hz
      have Htk := Lib.hid htk
      clear hz htk
      simp only [rentalE] at ho
      go_wp2_with fail
      refine (l_markText_at _ _ (by omega) (by omega)).mono ?_
      rintro e w1 ⟨T0, rfl, HT0, hb0⟩
      replace ht := ht.trans (Touch.of_below hb0)
      replace ho := own_below ho hb0
      obtain ⟨u0, hu0⟩ := own_cell ho (j := k * 5) (by omega)
      have hf0 := ho.frozenAt (k * 5)
      replace ho := (ho.stored (k * 5) (.string T0)).1
      replace ht := ht.trans (Touch.setCell (p := ⟨g, k * 5, none⟩) hFg (.string T0))
      go_wp2_with fail
      refine (l_markText_at _ _ (by omega) (by omega)).mono ?_
      rintro e w2 ⟨T1, rfl, HT1, hb1⟩
      replace ht := ht.trans (Touch.of_below hb1)
      replace ho := own_below ho hb1
      obtain ⟨u1, hu1⟩ := own_cell ho (j := k * 5 + 1) (by omega)
      have hf1 := ho.frozenAt (k * 5 + 1)
      replace ho := (ho.stored (k * 5 + 1) (.string T1)).1
      replace ht := ht.trans (Touch.setCell (p := ⟨g, k * 5 + 1, none⟩) hFg (.string T1))
      obtain ⟨u2, hu2⟩ := own_cell ho (j := k * 5 + 2) (by omega)
      have hf2 := ho.frozenAt (k * 5 + 2)
      replace ho := (ho.stored (k * 5 + 2) (.int .i64 ((m : Int) + 5 * k + 1 + 1))).1
      replace ht := ht.trans (Touch.setCell (p := ⟨g, k * 5 + 2, none⟩) hFg (.int .i64 ((m : Int) + 5 * k + 1 + 1)))
      obtain ⟨u3, hu3⟩ := own_cell ho (j := k * 5 + 3) (by omega)
      have hf3 := ho.frozenAt (k * 5 + 3)
      replace ho := (ho.stored (k * 5 + 3) (.int .i64 ((m : Int) + 5 * k + 1 + 1 + 1))).1
      replace ht := ht.trans (Touch.setCell (p := ⟨g, k * 5 + 3, none⟩) hFg (.int .i64 ((m : Int) + 5 * k + 1 + 1 + 1)))
      obtain ⟨u4, hu4⟩ := own_cell ho (j := k * 5 + 4) (by omega)
      have hf4 := ho.frozenAt (k * 5 + 4)
      replace ho := (ho.stored (k * 5 + 4) (.int .i64 ((m : Int) + 5 * k + 1 + 1 + 1 + 1))).1
      replace ht := ht.trans (Touch.setCell (p := ⟨g, k * 5 + 4, none⟩) hFg (.int .i64 ((m : Int) + 5 * k + 1 + 1 + 1 + 1)))
      have HC : Hid ([.string T0, .string T1, .int .i64 ((m : Int) + 5 * k + 1 + 1), .int .i64 ((m : Int) + 5 * k + 1 + 1 + 1), .int .i64 ((m : Int) + 5 * k + 1 + 1 + 1 + 1)] = rentalE.cells (mark1Rental (m + 5 * k))) := Lib.hid (by
        rw [show T0 = mt (m + 5 * k + 0) from HT0.out.trans (congrArg mt (by omega))]
        rw [show T1 = mt (m + 5 * k + 1) from HT1.out.trans (congrArg mt (by omega))]
        rw [show (m : Int) + 5 * k + 1 + 1 + 1 + 1 = ((m + 5 * k + 4 : Nat) : Int) from by omega]
        rw [show (m : Int) + 5 * k + 1 + 1 + 1 = ((m + 5 * k + 3 : Nat) : Int) from by omega]
        rw [show (m : Int) + 5 * k + 1 + 1 = ((m + 5 * k + 2 : Nat) : Int) from by omega]
        rfl)
      have HP := Lib.hid (PartV.of_sets (E := rentalE) Hz.out Htk.out HK.out hkn (by rw [← HC.out]; exact ho))
      go_wp2
      first | (refine ⟨⟨k + 1, by omega, by go_num, by go_num, HP.out, ht⟩, ?_⟩; (simp [intOf]; omega)) | (go_roundw; (case rel => first | exact ⟨k + 1, by omega, by go_num, by go_num, HP.out, ht⟩ | ((try refine ⟨trivial, ?_⟩); (repeat apply Exists.intro); exact ⟨⟨k + 1, by omega, by go_num, by go_num, HP.out, ht⟩, rfl⟩)); (case measure => (simp [intOf]; omega)))
    · go_wp2
      go_ret
      obtain rfl : k = n := by omega
      exact ⟨by go_num, ⟨hp.done HM.out (Nat.le_refl _), HM.out, hO.2.2⟩, ht⟩

set_option maxHeartbeats 2000000 in
theorem l_heldRentalS (F : Nat → Prop) (A : Option Addr) (n c : Nat) (k0 : Int) (w : World) (hO : OL rentalE 40 F w A n c (markLRental n k0.toNat)) (hn : n ≤ 34359738368) (h0 : 0 ≤ k0) (h1 : k0 ≤ 549755813888) :
    Calls Tryz.prog 12 #[.slice A n c, .int .i64 k0] w (HeldR (k0 + 5 * n) w) := by
  obtain ⟨m, rfl⟩ := Int.eq_ofNat_of_zero_le h0
  rw [Int.toNat_natCast] at hO
  have hr := hO.rd
  go_enter Tryz.func12, Tryz.ntmps12
  go_wp2_with fail
  go_loopw [1, 5] (fun t i wr => ∃ k : Nat, k ≤ n ∧ i = .int .i64 k ∧ t = .int .i64 (m + 5 * k) ∧ Below w.heap.size w wr) (fun _ i _ => n - (intOf i).toNat)
  case atStart => exact ⟨0, Nat.zero_le _, rfl, by go_num, Below.refl _ _⟩
  case round =>
    obtain ⟨k, hk, rfl, rfl, hb⟩ := hrel
    by_cases hkn : k < n
    · obtain ⟨b, off, x, rfl, hks, hc⟩ := hr.get hkn
      obtain rfl : x = mark1Rental (m + 5 * k) := Option.some.inj (hks.symm.trans (markLRental_get n m k hkn))
      clear hks
      have HC := Lib.hid hc; clear hc
      have hc0 := range_below (B := 0) HC.out hb 0 (.string (mt (m + 5 * k + 0))) rfl
      simp only [rentalE, Nat.add_zero] at hc0
      have HM0 : Hid (∀ W, Calls Tryz.prog 22 #[.int .i64 ((m : Int) + 5 * k)] W fun e w' => e = .returned (.string (mt (m + 5 * k + 0))) ∧ Below W.heap.size W w') := Lib.hid (by
        intro W
        have := l_markText (m + 5 * k + 0) W (by omega)
        rw [show ((m + 5 * k + 0 : Nat) : Int) = (m : Int) + 5 * k from by omega] at this
        exact this)
      go_wp2_with fail
      go_region_held3 (fun w' => w'.cell? ⟨b, off + k * 5, none⟩ = some (.string (mt (m + 5 * k + 0))) ∧ Below w.heap.size w w') (first | exact ⟨hc0, hb.drew⟩ | (go_split_ands; exact ⟨cell_later hbm (by assumption), Below.trans (by assumption) (hbm.mono (Below.size (by assumption)))⟩) | (go_split_ands; exact ⟨by assumption, by assumption⟩))
        (first | (go_at_call 22; refine (HM0.out _).mono ?_; rintro e w0 ⟨rfl, hbm⟩))
      rename_i hh
      obtain ⟨_, hb0⟩ := hh
      clear hbm hc0
      have hc1 := range_below (B := 0) HC.out hb0 1 (.string (mt (m + 5 * k + 1))) rfl
      simp only [rentalE, Nat.add_zero] at hc1
      have HM1 : Hid (∀ W, Calls Tryz.prog 22 #[.int .i64 ((m : Int) + 5 * k + 1)] W fun e w' => e = .returned (.string (mt (m + 5 * k + 1))) ∧ Below W.heap.size W w') := Lib.hid (by
        intro W
        have := l_markText (m + 5 * k + 1) W (by omega)
        rw [show ((m + 5 * k + 1 : Nat) : Int) = (m : Int) + 5 * k + 1 from by omega] at this
        exact this)
      go_wp2_with fail
      go_region_held3 (fun w' => w'.cell? ⟨b, off + k * 5 + 1, none⟩ = some (.string (mt (m + 5 * k + 1))) ∧ Below w.heap.size w w') (first | exact ⟨hc1, hb0.drew⟩ | (go_split_ands; exact ⟨cell_later hbm (by assumption), Below.trans (by assumption) (hbm.mono (Below.size (by assumption)))⟩) | (go_split_ands; exact ⟨by assumption, by assumption⟩))
        (first | (go_at_call 22; refine (HM1.out _).mono ?_; rintro e w1 ⟨rfl, hbm⟩))
      rename_i hh
      obtain ⟨_, hb1⟩ := hh
      clear hbm hc1
      have hc2 := range_below (B := 0) HC.out hb1 2 (.int .i64 ((m : Int) + 5 * k + 1 + 1)) (by rw [show (m : Int) + 5 * k + 1 + 1 = ((m + 5 * k + 2 : Nat) : Int) from by omega]; rfl)
      simp only [rentalE, Nat.add_zero] at hc2
      have hc3 := range_below (B := 0) HC.out hb1 3 (.int .i64 ((m : Int) + 5 * k + 1 + 1 + 1)) (by rw [show (m : Int) + 5 * k + 1 + 1 + 1 = ((m + 5 * k + 3 : Nat) : Int) from by omega]; rfl)
      simp only [rentalE, Nat.add_zero] at hc3
      have hc4 := range_below (B := 0) HC.out hb1 4 (.int .i64 ((m : Int) + 5 * k + 1 + 1 + 1 + 1)) (by rw [show (m : Int) + 5 * k + 1 + 1 + 1 + 1 = ((m + 5 * k + 4 : Nat) : Int) from by omega]; rfl)
      simp only [rentalE, Nat.add_zero] at hc4
      go_wp2_with fail
      clear hc2 hc3 hc4
      go_wp2
      first | (refine ⟨⟨k + 1, by omega, by go_num, by go_num, hb1⟩, ?_⟩; (simp [intOf]; omega)) | (go_roundw; (case rel => first | exact ⟨k + 1, by omega, by go_num, by go_num, hb1⟩ | ((try refine ⟨trivial, ?_⟩); (repeat apply Exists.intro); exact ⟨⟨k + 1, by omega, by go_num, by go_num, hb1⟩, rfl⟩)); (case measure => (simp [intOf]; omega)))
    · go_wp2
      go_ret
      obtain rfl : k = n := by omega
      exact ⟨by go_num, hb⟩

end Go.Proofs.YtndbppplkfpgnaaGreatDoor

