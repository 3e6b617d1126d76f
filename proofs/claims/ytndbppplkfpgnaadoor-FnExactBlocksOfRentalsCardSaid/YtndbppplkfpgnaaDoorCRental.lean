/- Rental: how one lies, and the law files' helpers on it. -/
import Derived.Test.YtndbppplkfpgnaaDoorRows
import Derived.Test.YtndbppplkfpgnaaDoorMem
import Derived.Test.YtndbppplkfpgnaaDoorLaw
import Derived.Test.YtndbppplkfpgnaaDoorConvS
import Derived.Test.YtndbppplkfpgnaaDoorMarks
import Derived.StillTailTactics
import Derived.Laws.StructEq
namespace Go.Proofs.YtndbppplkfpgnaaDoor
set_option linter.unusedVariables false
set_option linter.unusedSimpArgs false
set_option linter.unusedSectionVars false
open Go.RowKit

structure DRental where
  fId : ByteArray
  fItem : ByteArray
  fDay : Int
  fMonths : Int
  fFee : Int
def rentalE : Enc DRental := ⟨5, fun x => [.string x.fId, .string x.fItem, .int .i64 x.fDay, .int .i64 x.fMonths, .int .i64 x.fFee], fun _ => rfl, by decide, fun _ u h => by simp at h; rcases h with rfl | rfl | rfl | rfl | rfl <;> rfl⟩
def DRental.val (x : DRental) : Value := .agg #[.string x.fId, .string x.fItem, .int .i64 x.fDay, .int .i64 x.fMonths, .int .i64 x.fFee]
def DRental.good (x : DRental) : Prop := x.fId.size ≤ maxLen ∧ x.fItem.size ≤ maxLen ∧ (-9223372036854775808 ≤ x.fDay ∧ x.fDay ≤ 9223372036854775807) ∧ (-9223372036854775808 ≤ x.fMonths ∧ x.fMonths ≤ 9223372036854775807) ∧ (-9223372036854775808 ≤ x.fFee ∧ x.fFee ≤ 9223372036854775807)
def DRental.sz (x : DRental) : Int := x.fId.size + x.fItem.size
def sumRental : List DRental → Int
  | [] => 0
  | x :: r => x.sz + sumRental r
theorem DRental.sz_nonneg (x : DRental) : 0 ≤ x.sz := by unfold DRental.sz; omega
theorem sumRental_nonneg (l : List DRental) : 0 ≤ sumRental l := by
  induction l with
  | nil => simp [sumRental]
  | cons s r ih => have := s.sz_nonneg; simp only [sumRental]; omega
theorem sumRental_mem {l : List DRental} {x : DRental} (h : x ∈ l) : x.sz ≤ sumRental l := by
  induction l with
  | nil => cases h
  | cons y r ih =>
    have h0 := sumRental_nonneg r
    have h1 := y.sz_nonneg
    simp only [sumRental]
    cases List.mem_cons.1 h with
    | inl e => subst e; omega
    | inr e => have := ih e; omega


/-- whether two are the same, field by field -/
def DRental.eqv (x y : DRental) : Bool := (x.fId.toList == y.fId.toList) && ((x.fItem.toList == y.fItem.toList) && ((x.fDay == y.fDay) && ((x.fMonths == y.fMonths) && (x.fFee == y.fFee))))
theorem DRental.eqv_iff (x y : DRental) : x.eqv y = true ↔ x = y := by
  constructor
  · intro h
    simp only [DRental.eqv, Bool.and_eq_true, beq_iff_eq] at h
    obtain ⟨e0, e1, e2, e3, e4⟩ := h
    cases x; cases y
    simp only [DRental.mk.injEq]
    exact ⟨ba_ext (by simpa [ByteArray.toList_eq] using e0), ba_ext (by simpa [ByteArray.toList_eq] using e1), e2, e3, e4⟩
  · rintro rfl
    simp [DRental.eqv]

theorem run_eql_Rental (x y : DRental) (w : World) : (binOp .eql 38 (.agg #[.string x.fId, .string x.fItem, .int .i64 x.fDay, .int .i64 x.fMonths, .int .i64 x.fFee]) (.agg #[.string y.fId, .string y.fItem, .int .i64 y.fDay, .int .i64 y.fMonths, .int .i64 y.fFee])).run Tryd.prog w = .ok (.bool (x.eqv y)) w := by
  have hS : Tryd.prog.underlying 38 = some (.struct (Tryd.prog.fieldsOf 38)) := by kernel_rfl
  have hp : Tryd.prog.stoodInHeld 38 = false := by kernel_rfl
  rw [run_eql_struct, show (10000 : Nat) = 9999 + 1 from rfl, run_equalIn_agg w 9999 38 _ _ hS hp]
  simp only [Program.fieldsOf, Tryd.underlying38]
  go_simp
  unfold DRental.eqv
  rcases h0 : (x.fId.toList == y.fId.toList) with _ | _ <;> rcases h1 : (x.fItem.toList == y.fItem.toList) with _ | _ <;> rcases h2 : (x.fDay == y.fDay) with _ | _ <;> rcases h3 : (x.fMonths == y.fMonths) with _ | _ <;> rcases h4 : (x.fFee == y.fFee) with _ | _ <;> simp_all
theorem run_neq_Rental (x y : DRental) (w : World) : (binOp .neq 38 (.agg #[.string x.fId, .string x.fItem, .int .i64 x.fDay, .int .i64 x.fMonths, .int .i64 x.fFee]) (.agg #[.string y.fId, .string y.fItem, .int .i64 y.fDay, .int .i64 y.fMonths, .int .i64 y.fFee])).run Tryd.prog w = .ok (.bool (!x.eqv y)) w := by
  have hS : Tryd.prog.underlying 38 = some (.struct (Tryd.prog.fieldsOf 38)) := by kernel_rfl
  have hp : Tryd.prog.stoodInHeld 38 = false := by kernel_rfl
  rw [run_neq_struct, show (10000 : Nat) = 9999 + 1 from rfl, run_equalIn_agg w 9999 38 _ _ hS hp]
  simp only [Program.fieldsOf, Tryd.underlying38]
  go_simp
  unfold DRental.eqv
  rcases h0 : (x.fId.toList == y.fId.toList) with _ | _ <;> rcases h1 : (x.fItem.toList == y.fItem.toList) with _ | _ <;> rcases h2 : (x.fDay == y.fDay) with _ | _ <;> rcases h3 : (x.fMonths == y.fMonths) with _ | _ <;> rcases h4 : (x.fFee == y.fFee) with _ | _ <;> simp_all

theorem el_Rental {H : Type} {enc : TypeId × Value → H} {w : World} {base : Nat} {spare : Nat → Bool} {held : Bool} (n : Nat) (cs : List Value) (y : DataW H × List MemPlace) (h : DataW.trod enc Tryd.prog w base spare held n 36 cs = some y) : ∃ x, cs = rentalE.cells x ∧ x.good := by
  obtain ⟨xs, m, _, _, hlen, _, hf⟩ := DataW.trod_struct Tryd.underlying36 h
  have hlen' : cs.length = 5 := hlen.trans (by kernel_rfl)
  have g0 := hf 0 _ rfl
  have g1 := hf 1 _ rfl
  have g2 := hf 2 _ rfl
  have g3 := hf 3 _ rfl
  have g4 := hf 4 _ rfl
  match cs, hlen' with
  | [c0, c1, c2, c3, c4], _ =>
    have e0 : (([c0, c1, c2, c3, c4].drop 0).take (Tryd.prog.cellsOf 9)) = [c0] := by rw [show Tryd.prog.cellsOf 9 = 1 by kernel_rfl]; rfl
    obtain ⟨y0, hy0⟩ : ∃ y, DataW.trod enc Tryd.prog w base spare held m 9 [c0] = some y := by rw [← e0]; exact ⟨_, g0.trans (List.getElem?_eq_getElem (by simp_all))⟩
    obtain ⟨x0, hx0, _, hz0⟩ := DataW.trod_string Tryd.underlying9 hy0
    have e1 : (([c0, c1, c2, c3, c4].drop 1).take (Tryd.prog.cellsOf 9)) = [c1] := by rw [show Tryd.prog.cellsOf 9 = 1 by kernel_rfl]; rfl
    obtain ⟨y1, hy1⟩ : ∃ y, DataW.trod enc Tryd.prog w base spare held m 9 [c1] = some y := by rw [← e1]; exact ⟨_, g1.trans (List.getElem?_eq_getElem (by simp_all))⟩
    obtain ⟨x1, hx1, _, hz1⟩ := DataW.trod_string Tryd.underlying9 hy1
    have e2 : (([c0, c1, c2, c3, c4].drop 2).take (Tryd.prog.cellsOf 2)) = [c2] := by rw [show Tryd.prog.cellsOf 2 = 1 by kernel_rfl]; rfl
    obtain ⟨y2, hy2⟩ : ∃ y, DataW.trod enc Tryd.prog w base spare held m 2 [c2] = some y := by rw [← e2]; exact ⟨_, g2.trans (List.getElem?_eq_getElem (by simp_all))⟩
    obtain ⟨x2, hx2, _, hz2⟩ := DataW.trod_int Tryd.underlying2 hy2
    have e3 : (([c0, c1, c2, c3, c4].drop 3).take (Tryd.prog.cellsOf 2)) = [c3] := by rw [show Tryd.prog.cellsOf 2 = 1 by kernel_rfl]; rfl
    obtain ⟨y3, hy3⟩ : ∃ y, DataW.trod enc Tryd.prog w base spare held m 2 [c3] = some y := by rw [← e3]; exact ⟨_, g3.trans (List.getElem?_eq_getElem (by simp_all))⟩
    obtain ⟨x3, hx3, _, hz3⟩ := DataW.trod_int Tryd.underlying2 hy3
    have e4 : (([c0, c1, c2, c3, c4].drop 4).take (Tryd.prog.cellsOf 2)) = [c4] := by rw [show Tryd.prog.cellsOf 2 = 1 by kernel_rfl]; rfl
    obtain ⟨y4, hy4⟩ : ∃ y, DataW.trod enc Tryd.prog w base spare held m 2 [c4] = some y := by rw [← e4]; exact ⟨_, g4.trans (List.getElem?_eq_getElem (by simp_all))⟩
    obtain ⟨x4, hx4, _, hz4⟩ := DataW.trod_int Tryd.underlying2 hy4
    refine ⟨⟨x0, x1, x2, x3, x4⟩, ?_, hz0, hz1, wf64 hz2, wf64 hz3, wf64 hz4⟩
    simp only [List.cons.injEq, and_true] at hx0 hx1 hx2 hx3 hx4
    subst hx0 hx1 hx2 hx3 hx4
    rfl

theorem open_Rental {H : Type} {enc : TypeId × Value → H} {w : World} {base : Nat} {spare : Nat → Bool} {held : Bool} {r : Reach} {b0 : Nat} {v : Value} {d : DataW H} {p : List MemPlace} (hv : Value.okWide Tryd.prog w r b0 36 v)
    (h : DataW.Trod enc Tryd.prog w base spare held 36 v d p) : ∃ x : DRental, v = .agg #[.string x.fId, .string x.fItem, .int .i64 x.fDay, .int .i64 x.fMonths, .int .i64 x.fFee] ∧ x.good := by
  obtain ⟨cs, rfl, hsz⟩ := WideShapes.okWide_struct Tryd.underlying36 hv
  obtain ⟨fuel, hf⟩ := h
  obtain ⟨x, hx, hg⟩ := el_Rental fuel _ _ hf
  refine ⟨x, ?_, hg⟩
  congr 1
  apply Array.toList_inj.1
  exact hx

set_option maxHeartbeats 400000 in
theorem l_szRental (x : DRental) (left : Int) (w : World) (hg : x.good) (h0 : 0 ≤ left) (h1 : left ≤ 1048576) :
    Calls Tryd.prog 13 #[.agg #[.string x.fId, .string x.fItem, .int .i64 x.fDay, .int .i64 x.fMonths, .int .i64 x.fFee], .int .i64 left] w (SzB left x.sz w) := by
  obtain ⟨g0, g1, g2, g3, g4⟩ := hg
  unfold maxLen at g0 g1
  clear g2 g3 g4
  by_cases c0 : left - x.fId.size < 0
  · go_enter Tryd.func13, Tryd.ntmps13
    go_wp2
    go_ret
    exact SzB.neg (by (repeat (first | exact Below.refl _ _ | assumption | refine Below.drew ?_ | refine Below.alloc ?_ (by first | omega | (simp; done) | (simp; omega) | exact Below.size (by assumption)) _ | refine Below.setCell ?_ (by first | omega | (simp; done) | (simp; omega)) _)))
  · by_cases c1 : left - x.fId.size - x.fItem.size < 0
    · go_enter Tryd.func13, Tryd.ntmps13
      go_wp2
      go_ret
      exact SzB.neg (by (repeat (first | exact Below.refl _ _ | assumption | refine Below.drew ?_ | refine Below.alloc ?_ (by first | omega | (simp; done) | (simp; omega) | exact Below.size (by assumption)) _ | refine Below.setCell ?_ (by first | omega | (simp; done) | (simp; omega)) _)))
    · go_enter Tryd.func13, Tryd.ntmps13
      go_wp2
      go_ret
      exact SzB.ok (by (repeat (first | exact Below.refl _ _ | assumption | refine Below.drew ?_ | refine Below.alloc ?_ (by first | omega | (simp; done) | (simp; omega) | exact Below.size (by assumption)) _ | refine Below.setCell ?_ (by first | omega | (simp; done) | (simp; omega)) _))) (by omega) (by unfold DRental.sz; omega)

theorem l_toRental (x : DRental) (w : World) :
    Calls Tryd.prog 16 #[.agg #[.string x.fId, .string x.fItem, .int .i64 x.fDay, .int .i64 x.fMonths, .int .i64 x.fFee]] w fun e w' => e = .returned (.agg #[.string x.fId, .string x.fItem, .int .i64 x.fDay, .int .i64 x.fMonths, .int .i64 x.fFee]) ∧ Below w.heap.size w w' := by
  go_enter Tryd.func16, Tryd.ntmps16
  go_wp2
  exact bodyPost_ret (v := .agg #[.string x.fId, .string x.fItem, .int .i64 x.fDay, .int .i64 x.fMonths, .int .i64 x.fFee]) (by simp [results, Tryd.results16, go_sem]) rfl ⟨rfl, by (repeat (first | exact Below.refl _ _ | assumption | refine Below.drew ?_ | refine Below.alloc ?_ (by first | omega | (simp; done) | (simp; omega) | exact Below.size (by assumption)) _ | refine Below.setCell ?_ (by first | omega | (simp; done) | (simp; omega)) _))⟩

set_option maxHeartbeats 400000 in
theorem l_eqRental (x : DRental) (w : World) :
    Calls Tryd.prog 20 #[.agg #[.string x.fId, .string x.fItem, .int .i64 x.fDay, .int .i64 x.fMonths, .int .i64 x.fFee], .agg #[.string x.fId, .string x.fItem, .int .i64 x.fDay, .int .i64 x.fMonths, .int .i64 x.fFee]] w (RetB true w) := by
  go_enter Tryd.func20, Tryd.ntmps20
  go_wp2
  go_ret
  exact ⟨rfl, by (repeat (first | exact Below.refl _ _ | assumption | refine Below.drew ?_ | refine Below.alloc ?_ (by first | omega | (simp; done) | (simp; omega) | exact Below.size (by assumption)) _ | refine Below.setCell ?_ (by first | omega | (simp; done) | (simp; omega)) _))⟩

set_option maxHeartbeats 400000 in
theorem l_szRentalS (A : Option Addr) (n c : Nat) (l : List DRental) (left : Int) (w : World) (hr : Rd rentalE w A n l) (hn : n ≤ maxLen)
    (hs : ∀ x ∈ l, x.good) (h0 : 0 ≤ left) (h1 : left ≤ 1048576) :
    Calls Tryd.prog 4 #[.slice A n c, .int .i64 left] w (SzB left (sumRental l + n) w) := by
  unfold maxLen at hn
  have Hl := Lib.hid hr.1
  have HS := Lib.hid hs; clear hs
  by_cases hlt : left - n < 0
  · go_enter Tryd.func4, Tryd.ntmps4
    go_wp2
    go_ret
    exact SzB.neg (by (repeat (first | exact Below.refl _ _ | assumption | refine Below.drew ?_ | refine Below.alloc ?_ (by first | omega | (simp; done) | (simp; omega) | exact Below.size (by assumption)) _ | refine Below.setCell ?_ (by first | omega | (simp; done) | (simp; omega)) _)))
  · go_enter Tryd.func4, Tryd.ntmps4
    go_wp2_with fail
    go_loopw [1, 5] (fun t i wr => ∃ (k : Nat) (a : Int), k ≤ n ∧ 0 ≤ a ∧ a ≤ 1048576 ∧ i = .int .i64 k ∧ t = .int .i64 a ∧ Hid (a = left - n - sumRental l + sumRental (l.drop k)) ∧ Below w.heap.size w wr) (fun _ i _ => n - (intOf i).toNat)
    case atStart => exact ⟨0, left - n, by omega, by omega, by omega, rfl, rfl, Lib.hid (by rw [List.drop_zero]; omega), by (repeat (first | exact Below.refl _ _ | assumption | refine Below.drew ?_ | refine Below.alloc ?_ (by first | omega | (simp; done) | (simp; omega) | exact Below.size (by assumption)) _ | refine Below.setCell ?_ (by first | omega | (simp; done) | (simp; omega)) _))⟩
    case round =>
      obtain ⟨k, a, hk, ha0, ha1, rfl, rfl, HH, hb⟩ := hrel
      by_cases hkn : k < n
      · obtain ⟨b, off, x, rfl, hks, hc⟩ := hr.get hkn
        have hc0 := range_below (B := 0) hc hb 0 _ rfl
        have hc1 := range_below (B := 0) hc hb 1 _ rfl
        have hc2 := range_below (B := 0) hc hb 2 _ rfl
        have hc3 := range_below (B := 0) hc hb 3 _ rfl
        have hc4 := range_below (B := 0) hc hb 4 _ rfl
        simp only [rentalE, Nat.add_zero] at hc0 hc1 hc2 hc3 hc4
        have hx := Lib.hid (HS.out x (mem_of_get hks))
        have HD := Lib.hid (drop_of_get hks); clear hks hc
        go_wp2_with fail
        refine (l_szRental x a _ hx.out ha0 ha1).mono ?_
        rintro e w1 ⟨r, rfl, hb1, hr0, hr1⟩
        by_cases hneg : r < 0
        · obtain rfl : r = -1 := by omega
          clear hr1
          go_wp2
          go_ret
          exact SzB.neg (hb.trans (hb1.mono hb.size))
        · have h2 := hr1 (by omega)
          have h3 := x.sz_nonneg
          have H2 := Lib.hid h2
          have h4 : r ≤ 1048576 := by omega
          clear h2 h3 hr1
          go_wp2
          first | (refine ⟨⟨k + 1, r, by omega, by omega, by omega, by go_num, by go_num, Lib.hid (by have h5 := HH.out; rw [HD.out, sumRental] at h5; have := H2.out; omega), hb.trans (hb1.mono hb.size)⟩, ?_⟩; (simp [intOf]; omega)) | (go_roundw; (case rel => first | exact ⟨k + 1, r, by omega, by omega, by omega, by go_num, by go_num, Lib.hid (by have h5 := HH.out; rw [HD.out, sumRental] at h5; have := H2.out; omega), hb.trans (hb1.mono hb.size)⟩ | ((try refine ⟨trivial, ?_⟩); (repeat apply Exists.intro); exact ⟨⟨k + 1, r, by omega, by omega, by omega, by go_num, by go_num, Lib.hid (by have h5 := HH.out; rw [HD.out, sumRental] at h5; have := H2.out; omega), hb.trans (hb1.mono hb.size)⟩, rfl⟩)); (case measure => (simp [intOf]; omega)))
      · go_wp2
        go_ret
        have hh := HH.out
        rw [List.drop_of_length_le (by have := Hl.out; omega), sumRental] at hh
        exact SzB.ok hb ha0 (by omega)

theorem Tryd.info_Rental : (Tryd.prog.info? 38).map (fun i => (i.zero, i.size, i.bytes)) = some (some (.agg #[.string ⟨#[]⟩, .string ⟨#[]⟩, .int .i64 0, .int .i64 0, .int .i64 0]), 5, 56) := by kernel_rfl
set_option maxHeartbeats 400000 in
theorem l_toRentalS (A : Option Addr) (n c : Nat) (l : List DRental) (w : World) (hr : Rd rentalE w A n l) (hn : n ≤ 1048576) :
    Calls Tryd.prog 6 #[.slice A n c] w (RetOwn rentalE 38 l n w) := by
  have Hl := Lib.hid hr.1
  obtain ⟨i0, hi, hz0, hz1, hz2⟩ := info_parts Tryd.info_Rental
  have hmk := fun W => run_make_rows (P := Tryd.prog) 27 38 i0 _ Tryd.underlying27 hi hz0 hz1 .i64 .i64 n (by rw [hz2]; omega) (by omega) W
  clear hi hz0 hz1 hz2
  go_enter Tryd.func6, Tryd.ntmps6
  go_wp2_with fail
  clear hmk
  go_loopw [4] (fun i wr => ∃ k : Nat, k ≤ n ∧ i = .int .i64 k ∧ Part rentalE 38 w.heap.size w.heap.size n l k wr ∧ Below w.heap.size w wr) (fun i _ => n - (intOf i).toNat)
  case atStart => exact ⟨0, Nat.zero_le _, rfl, Part.made (E := rentalE) (z := #[.string ⟨#[]⟩, .string ⟨#[]⟩, .int .i64 0, .int .i64 0, .int .i64 0]) (x := ⟨⟨#[]⟩, ⟨#[]⟩, 0, 0, 0⟩) rfl (Nat.le_refl _) (by unfold maxLen; omega), by (repeat (first | exact Below.refl _ _ | assumption | refine Below.drew ?_ | refine Below.alloc ?_ (by first | omega | (simp; done) | (simp; omega) | exact Below.size (by assumption)) _ | refine Below.setCell ?_ (by first | omega | (simp; done) | (simp; omega)) _))⟩
  case round =>
    obtain ⟨k, hk, rfl, hp, hb⟩ := hrel
    by_cases hkn : k < n
    · obtain ⟨b, off, x, rfl, hks, hc⟩ := hr.get hkn
      have hc0 := range_below (B := 0) hc hb 0 _ rfl
      have hc1 := range_below (B := 0) hc hb 1 _ rfl
      have hc2 := range_below (B := 0) hc hb 2 _ rfl
      have hc3 := range_below (B := 0) hc hb 3 _ rfl
      have hc4 := range_below (B := 0) hc hb 4 _ rfl
      simp only [rentalE, Nat.add_zero] at hc0 hc1 hc2 hc3 hc4
      have HK := Lib.hid hks; clear hks hc
      go_wp2_with fail
      refine (l_toRental x _).mono ?_
      rintro e w1 ⟨rfl, hb1⟩
      have hp1 := hp.below hb1
      obtain ⟨u0, hu0⟩ := hp1.cell (j := k * 5) (by simp only [rentalE]; omega)
      have hf0 := hp1.free (k * 5)
      obtain ⟨u1, hu1⟩ := hp1.cell (j := k * 5 + 1) (by simp only [rentalE]; omega)
      have hf1 := hp1.free (k * 5 + 1)
      obtain ⟨u2, hu2⟩ := hp1.cell (j := k * 5 + 2) (by simp only [rentalE]; omega)
      have hf2 := hp1.free (k * 5 + 2)
      obtain ⟨u3, hu3⟩ := hp1.cell (j := k * 5 + 3) (by simp only [rentalE]; omega)
      have hf3 := hp1.free (k * 5 + 3)
      obtain ⟨u4, hu4⟩ := hp1.cell (j := k * 5 + 4) (by simp only [rentalE]; omega)
      have hf4 := hp1.free (k * 5 + 4)
      have HP := Lib.hid (hp1.sets HK.out hkn)
      have hb2 := below_setCells (Nat.le_refl w.heap.size) (rentalE.cells x) (k * 5) (hb.trans (hb1.mono hb.size))
      clear hc0 hc1 hc2 hc3 hc4
      go_wp2
      first | (refine ⟨⟨k + 1, by omega, by go_num, HP.out, hb2⟩, ?_⟩; (simp [intOf]; omega)) | (go_roundw; (case rel => first | exact ⟨k + 1, by omega, by go_num, HP.out, hb2⟩ | ((try refine ⟨trivial, ?_⟩); (repeat apply Exists.intro); exact ⟨⟨k + 1, by omega, by go_num, HP.out, hb2⟩, rfl⟩)); (case measure => (simp [intOf]; omega)))
    · go_wp2
      go_ret
      exact ⟨_, _, rfl, Hl.out, hp.done Hl.out (by omega), hb⟩

set_option maxRecDepth 100000 in
set_option maxHeartbeats 400000 in
theorem l_eqRentalS (A A' : Option Addr) (n c c' : Nat) (l : List DRental) (w : World) (hr : Rd rentalE w A n l) (hr' : Rd rentalE w A' n l) (hn : n ≤ maxLen) :
    Calls Tryd.prog 9 #[.slice A n c, .slice A' n c'] w (RetB true w) := by
  unfold maxLen at hn
  go_enter Tryd.func9, Tryd.ntmps9
  go_wp2
  go_loopw [5] (fun i wr => ∃ k : Nat, k ≤ n ∧ i = .int .i64 k ∧ Below w.heap.size w wr) (fun i _ => n - (intOf i).toNat)
  case atStart => exact ⟨0, Nat.zero_le _, rfl, by (repeat (first | exact Below.refl _ _ | assumption | refine Below.drew ?_ | refine Below.alloc ?_ (by first | omega | (simp; done) | (simp; omega) | exact Below.size (by assumption)) _ | refine Below.setCell ?_ (by first | omega | (simp; done) | (simp; omega)) _))⟩
  case round =>
    obtain ⟨k, hk, rfl, hb⟩ := hrel
    by_cases hkn : k < n
    · obtain ⟨b, off, x, rfl, hks, hc⟩ := hr.get hkn
      obtain ⟨b', off', x', rfl, hks', hc'⟩ := hr'.get hkn
      obtain rfl : x = x' := Option.some.inj (hks.symm.trans hks')
      have hc0 := range_below (B := 0) hc hb 0 _ rfl
      have hc1 := range_below (B := 0) hc hb 1 _ rfl
      have hc2 := range_below (B := 0) hc hb 2 _ rfl
      have hc3 := range_below (B := 0) hc hb 3 _ rfl
      have hc4 := range_below (B := 0) hc hb 4 _ rfl
      simp only [rentalE, Nat.add_zero] at hc0 hc1 hc2 hc3 hc4
      have hd0 := range_below (B := 0) hc' hb 0 _ rfl
      have hd1 := range_below (B := 0) hc' hb 1 _ rfl
      have hd2 := range_below (B := 0) hc' hb 2 _ rfl
      have hd3 := range_below (B := 0) hc' hb 3 _ rfl
      have hd4 := range_below (B := 0) hc' hb 4 _ rfl
      simp only [rentalE, Nat.add_zero] at hd0 hd1 hd2 hd3 hd4
      clear hc hc' hks hks'
      go_wp2_with fail
      go_still_tail 8, (by kernel_rfl)
      change wpList _ _ _ _ _ wr.drew
      go_wp2_with fail
      refine (l_eqRental x _).mono ?_
      rintro e w1 ⟨rfl, hb1⟩
      have hb2 := hb.drew.trans (hb1.mono hb.size)
      go_wp2
      first | (refine ⟨⟨k + 1, by omega, by go_num, hb2⟩, ?_⟩; (simp [intOf]; omega)) | (go_roundw; (case rel => first | exact ⟨k + 1, by omega, by go_num, hb2⟩ | ((try refine ⟨trivial, ?_⟩); (repeat apply Exists.intro); exact ⟨⟨k + 1, by omega, by go_num, hb2⟩, rfl⟩)); (case measure => (simp [intOf]; omega)))
    · go_wp2
      go_ret
      exact ⟨rfl, hb⟩

def mark1Rental (m : Nat) : DRental := ⟨mt (m + 0), mt (m + 1), ((m + 2 : Nat) : Int), ((m + 3 : Nat) : Int), ((m + 4 : Nat) : Int)⟩
def markLRental (n k : Nat) : List DRental := (List.range n).map fun i => mark1Rental (k + 5 * i)
theorem markLRental_get (n k i : Nat) (h : i < n) : (markLRental n k)[i]? = some (mark1Rental (k + 5 * i)) := by simp [markLRental, h]
theorem markLRental_len (n k : Nat) : (markLRental n k).length = n := by simp [markLRental]

set_option maxHeartbeats 1000000 in
theorem l_markRentalS (F : Nat → Prop) (A : Option Addr) (n c : Nat) (l : List DRental) (k0 : Int) (w : World) (hO : OL rentalE 38 F w A n c l) (hn : n ≤ 34359738368) (h0 : 0 ≤ k0) (h1 : k0 ≤ 549755813888) :
    Calls Tryd.prog 10 #[.slice A n c, .int .i64 k0] w (MarkR rentalE 38 F A n c (markLRental n k0.toNat) (k0 + 5 * n) w) := by
  obtain ⟨m, rfl⟩ := Int.eq_ofNat_of_zero_le h0
  rw [Int.toNat_natCast]
  have HM := Lib.hid (markLRental_len n m)
  go_enter Tryd.func10, Tryd.ntmps10
  go_wp2_with fail
  go_loopw [1, 5] (fun t i wr => ∃ k : Nat, k ≤ n ∧ i = .int .i64 k ∧ t = .int .i64 (m + 5 * k) ∧ PartV rentalE 38 0 A n c (markLRental n m) k wr ∧ Touch F w wr) (fun _ i _ => n - (intOf i).toNat)
  case atStart => exact ⟨0, Nat.zero_le _, rfl, by go_num, PartV.start hO.1 hO.2.1, Touch.refl F w⟩
  case round =>
    obtain ⟨k, hk, rfl, rfl, hp, ht⟩ := hrel
    by_cases hkn : k < n
    · obtain ⟨g, rfl⟩ := hp.form (by omega)
      have hFg := hO.2.2 g rfl
      have HK := Lib.hid (markLRental_get n m k hkn)
      obtain ⟨zs, hz, htk, ho⟩ := hp
      have Hz := Lib.hid hz
      have Htk := Lib.hid htk
      clear hz htk
      simp only [rentalE] at ho
      go_wp2_with fail
      refine (l_markText_at _ _ (by omega) (by omega)).mono ?_
      rintro e w1 ⟨T0, rfl, HT0, hb0⟩
      replace ht := ht.trans (Touch.of_below hb0)
      replace ho := own_below ho hb0
      obtain ⟨u0, hu0⟩ := own_cell ho (j := k * 5) (by omega)
      have hf0 := ho.frozenAt (k * 5)
      replace ho := (ho.stored (k * 5) (.string T0)).1
      replace ht := ht.trans (Touch.setCell (p := ⟨g, k * 5, none⟩) hFg (.string T0))
      go_wp2_with fail
      refine (l_markText_at _ _ (by omega) (by omega)).mono ?_
      rintro e w2 ⟨T1, rfl, HT1, hb1⟩
      replace ht := ht.trans (Touch.of_below hb1)
      replace ho := own_below ho hb1
      obtain ⟨u1, hu1⟩ := own_cell ho (j := k * 5 + 1) (by omega)
      have hf1 := ho.frozenAt (k * 5 + 1)
      replace ho := (ho.stored (k * 5 + 1) (.string T1)).1
      replace ht := ht.trans (Touch.setCell (p := ⟨g, k * 5 + 1, none⟩) hFg (.string T1))
      obtain ⟨u2, hu2⟩ := own_cell ho (j := k * 5 + 2) (by omega)
      have hf2 := ho.frozenAt (k * 5 + 2)
      replace ho := (ho.stored (k * 5 + 2) (.int .i64 ((m : Int) + 5 * k + 1 + 1))).1
      replace ht := ht.trans (Touch.setCell (p := ⟨g, k * 5 + 2, none⟩) hFg (.int .i64 ((m : Int) + 5 * k + 1 + 1)))
      obtain ⟨u3, hu3⟩ := own_cell ho (j := k * 5 + 3) (by omega)
      have hf3 := ho.frozenAt (k * 5 + 3)
      replace ho := (ho.stored (k * 5 + 3) (.int .i64 ((m : Int) + 5 * k + 1 + 1 + 1))).1
      replace ht := ht.trans (Touch.setCell (p := ⟨g, k * 5 + 3, none⟩) hFg (.int .i64 ((m : Int) + 5 * k + 1 + 1 + 1)))
      obtain ⟨u4, hu4⟩ := own_cell ho (j := k * 5 + 4) (by omega)
      have hf4 := ho.frozenAt (k * 5 + 4)
      replace ho := (ho.stored (k * 5 + 4) (.int .i64 ((m : Int) + 5 * k + 1 + 1 + 1 + 1))).1
      replace ht := ht.trans (Touch.setCell (p := ⟨g, k * 5 + 4, none⟩) hFg (.int .i64 ((m : Int) + 5 * k + 1 + 1 + 1 + 1)))
      have HC : Hid ([.string T0, .string T1, .int .i64 ((m : Int) + 5 * k + 1 + 1), .int .i64 ((m : Int) + 5 * k + 1 + 1 + 1), .int .i64 ((m : Int) + 5 * k + 1 + 1 + 1 + 1)] = rentalE.cells (mark1Rental (m + 5 * k))) := Lib.hid (by
        rw [show T0 = mt (m + 5 * k + 0) from HT0.out.trans (congrArg mt (by omega))]
        rw [show T1 = mt (m + 5 * k + 1) from HT1.out.trans (congrArg mt (by omega))]
        rw [show (m : Int) + 5 * k + 1 + 1 + 1 + 1 = ((m + 5 * k + 4 : Nat) : Int) from by omega]
        rw [show (m : Int) + 5 * k + 1 + 1 + 1 = ((m + 5 * k + 3 : Nat) : Int) from by omega]
        rw [show (m : Int) + 5 * k + 1 + 1 = ((m + 5 * k + 2 : Nat) : Int) from by omega]
        rfl)
      have HP := Lib.hid (PartV.of_sets (E := rentalE) Hz.out Htk.out HK.out hkn (by rw [← HC.out]; exact ho))
      go_wp2
      first | (refine ⟨⟨k + 1, by omega, by go_num, by go_num, HP.out, ht⟩, ?_⟩; (simp [intOf]; omega)) | (go_roundw; (case rel => first | exact ⟨k + 1, by omega, by go_num, by go_num, HP.out, ht⟩ | ((try refine ⟨trivial, ?_⟩); (repeat apply Exists.intro); exact ⟨⟨k + 1, by omega, by go_num, by go_num, HP.out, ht⟩, rfl⟩)); (case measure => (simp [intOf]; omega)))
    · go_wp2
      go_ret
      obtain rfl : k = n := by omega
      exact ⟨by go_num, ⟨hp.done HM.out (Nat.le_refl _), HM.out, hO.2.2⟩, ht⟩

end Go.Proofs.YtndbppplkfpgnaaDoor

