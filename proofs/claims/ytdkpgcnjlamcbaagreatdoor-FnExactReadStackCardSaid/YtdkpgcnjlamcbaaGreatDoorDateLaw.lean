/- Plain law: days and dates, and the text of a date. Nothing here speaks of the program. -/
import Derived.Test.YtdkpgcnjlamcbaaGreatDoorNum
import Derived.Test.YtdkpgcnjlamcbaaGreatDoorPieces
namespace Go.Proofs.YtdkpgcnjlamcbaaGreatDoor
set_option linter.unusedVariables false
set_option linter.unusedSimpArgs false
set_option linter.unusedSectionVars false
open Go.Lib

def lenB (b : Bool) (m : Nat) : Nat := match m with
  | 2 => if b then 29 else 28
  | 4 | 6 | 9 | 11 => 30
  | _ => 31
def leapB (y : Nat) : Bool := decide (y % 4 = 0)
/-- the days of the first k months -/
def mAcc (b : Bool) : Nat → Nat
  | 0 => 0
  | k + 1 => mAcc b k + lenB b (k + 1)
/-- the days of the first k years -/
def yAcc (k : Nat) : Nat := 365 * k + (k + 3) / 4
structure DateOk (y m d : Nat) : Prop where
  y0 : 2000 ≤ y
  y1 : y ≤ 2099
  m0 : 1 ≤ m
  m1 : m ≤ 12
  d0 : 1 ≤ d
  d1 : d ≤ lenB (leapB y) m
def dayNo (y m d : Nat) : Nat := yAcc (y - 2000) + mAcc (leapB y) (m - 1) + (d - 1)

theorem lenB_range (b : Bool) (m : Nat) : 28 ≤ lenB b m ∧ lenB b m ≤ 31 := by
  unfold lenB; cases b <;> split <;> simp
theorem mAcc_mono (b : Bool) {j k : Nat} (h : j ≤ k) : mAcc b j ≤ mAcc b k := by
  induction k with
  | zero => obtain rfl : j = 0 := by omega
            exact Nat.le_refl _
  | succ k ih =>
    rcases Nat.lt_or_ge j (k + 1) with h1 | h1
    · have := ih (by omega)
      rw [mAcc]
      omega
    · obtain rfl : j = k + 1 := by omega
      exact Nat.le_refl _
theorem mAcc_full (b : Bool) : mAcc b 12 = if b then 366 else 365 := by cases b <;> rfl
theorem yAcc_next {y : Nat} (h : 2000 ≤ y) : yAcc (y - 2000 + 1) = yAcc (y - 2000) + mAcc (leapB y) 12 := by
  rw [mAcc_full]
  unfold yAcc leapB
  by_cases h4 : y % 4 = 0
  · rw [decide_eq_true h4, if_pos rfl]; omega
  · rw [decide_eq_false h4, if_neg (by simp)]; omega
theorem yAcc_mono {j k : Nat} (h : j ≤ k) : yAcc j ≤ yAcc k := by unfold yAcc; omega
theorem mAcc_step (b : Bool) {m : Nat} (h : 1 ≤ m) : mAcc b m = mAcc b (m - 1) + lenB b m := by
  obtain ⟨k, rfl⟩ : ∃ k, m = k + 1 := ⟨m - 1, by omega⟩
  rfl
theorem DateOk.below {y m d : Nat} (h : DateOk y m d) : mAcc (leapB y) (m - 1) + (d - 1) < mAcc (leapB y) 12 := by
  have h1 := mAcc_mono (leapB y) h.m1
  rw [mAcc_step _ h.m0] at h1
  have := h.d0
  have := h.d1
  omega
theorem dayNo_le {y m d : Nat} (h : DateOk y m d) : dayNo y m d ≤ 36524 := by
  have h1 := h.below
  have h2 := yAcc_next h.y0
  have h3 := yAcc_mono (show y - 2000 + 1 ≤ 100 by have := h.y1; omega)
  have h4 : yAcc 100 = 36525 := rfl
  unfold dayNo
  omega
theorem dayNo_inj {y m d y' m' d' : Nat} (h : DateOk y m d) (h' : DateOk y' m' d') (e : dayNo y m d = dayNo y' m' d') : y = y' ∧ m = m' ∧ d = d' := by
  have b := h.below
  have b' := h'.below
  have n := yAcc_next h.y0
  have n' := yAcc_next h'.y0
  have hy0 := h.y0
  have hy0' := h'.y0
  unfold dayNo at e
  have hy : y = y' := by
    rcases Nat.lt_trichotomy y y' with h1 | h1 | h1
    · have := yAcc_mono (show y - 2000 + 1 ≤ y' - 2000 by omega)
      omega
    · exact h1
    · have := yAcc_mono (show y' - 2000 + 1 ≤ y - 2000 by omega)
      omega
  subst hy
  have s := mAcc_step (leapB y) h.m0
  have s' := mAcc_step (leapB y) h'.m0
  have hd := h.d1
  have hd' := h'.d1
  have hd0 := h.d0
  have hd0' := h'.d0
  have hm : m = m' := by
    rcases Nat.lt_trichotomy m m' with h1 | h1 | h1
    · have := mAcc_mono (leapB y) (show m ≤ m' - 1 by omega)
      omega
    · exact h1
    · have := mAcc_mono (leapB y) (show m' ≤ m - 1 by omega)
      omega
  subst hm
  exact ⟨rfl, rfl, by omega⟩

/-- a number with two digits -/
def twoL (n : Nat) : List UInt8 := if n < 10 then 48 :: itoa (n : Int) else itoa (n : Int)
def fmtL (y m d : Nat) : List UInt8 := itoa (y : Int) ++ 45 :: (twoL m ++ 45 :: twoL d)
open Classical in
/-- the text of a day -/
noncomputable def dateL (D : Nat) : List UInt8 := if h : ∃ x : Nat × Nat × Nat, DateOk x.1 x.2.1 x.2.2 ∧ dayNo x.1 x.2.1 x.2.2 = D then fmtL (Classical.choose h).1 (Classical.choose h).2.1 (Classical.choose h).2.2 else []
theorem dateL_of {y m d : Nat} (h : DateOk y m d) : dateL (dayNo y m d) = fmtL y m d := by
  have he : ∃ x : Nat × Nat × Nat, DateOk x.1 x.2.1 x.2.2 ∧ dayNo x.1 x.2.1 x.2.2 = dayNo y m d := ⟨(y, m, d), h, rfl⟩
  unfold dateL
  rw [dif_pos he]
  obtain ⟨h1, h2⟩ := Classical.choose_spec he
  obtain ⟨e1, e2, e3⟩ := dayNo_inj h1 h h2
  rw [e1, e2, e3]

theorem itoa_nat (n : Nat) : itoa (n : Int) = decDigits n := by
  unfold itoa
  rw [if_neg (by omega)]
  rfl
theorem twoL_eq {n : Nat} (h : n < 100) : twoL n = [UInt8.ofNat (48 + n / 10), UInt8.ofNat (48 + n % 10)] := by
  unfold twoL
  rw [itoa_nat]
  split
  · rename_i h1
    rw [decDigits_one h1, show n / 10 = 0 by omega, show n % 10 = n by omega]
    rfl
  · rename_i h1
    rw [decDigits_big h1, decDigits_one (show n / 10 < 10 by omega)]
    rfl
theorem year_eq {y : Nat} (h0 : 2000 ≤ y) (h1 : y ≤ 2099) : itoa (y : Int) = [50, 48, UInt8.ofNat (48 + y / 10 % 10), UInt8.ofNat (48 + y % 10)] := by
  rw [itoa_nat, decDigits_big (show ¬ y < 10 by omega), decDigits_big (show ¬ y / 10 < 10 by omega), decDigits_big (show ¬ y / 10 / 10 < 10 by omega), decDigits_one (show y / 10 / 10 / 10 < 10 by omega)]
  rw [show y / 10 / 10 / 10 = 2 by omega, show y / 10 / 10 % 10 = 0 by omega]
  rfl
theorem DateOk.d31 {y m d : Nat} (h : DateOk y m d) : d ≤ 31 := Nat.le_trans h.d1 (lenB_range _ _).2
theorem fmt_eq {y m d : Nat} (h : DateOk y m d) : fmtL y m d = [50, 48, UInt8.ofNat (48 + y / 10 % 10), UInt8.ofNat (48 + y % 10), 45, UInt8.ofNat (48 + m / 10), UInt8.ofNat (48 + m % 10), 45, UInt8.ofNat (48 + d / 10), UInt8.ofNat (48 + d % 10)] := by
  unfold fmtL
  rw [year_eq h.y0 h.y1, twoL_eq (show m < 100 by have := h.m1; omega), twoL_eq (show d < 100 by have := h.d31; omega)]
  rfl

/-- what reading the text of a day answers -/
def dateRead (l : List UInt8) : Option Nat :=
  if l.length = 10 ∧ l[4]? = some 45 ∧ l[7]? = some 45 then
    match decFrom 0 (l.take 4), decFrom 0 ((l.drop 5).take 2), decFrom 0 (l.drop 8) with
    | some y, some m, some d => if 2000 ≤ y ∧ y ≤ 2099 ∧ 1 ≤ m ∧ m ≤ 12 ∧ 1 ≤ d ∧ d ≤ lenB (leapB y) m then some (dayNo y m d) else none
    | _, _, _ => none
  else none

theorem dec_cons {c : UInt8} {r : List UInt8} {a n : Nat} (h : decFrom a (c :: r) = some n) : ∃ k, k < 10 ∧ c = UInt8.ofNat (48 + k) ∧ decFrom (10 * a + k) r = some n := by
  simp only [decFrom] at h
  cases hk : digitVal c with
  | none => rw [hk] at h; cases h
  | some k =>
    rw [hk] at h
    obtain ⟨h1, h2⟩ := of_digitVal hk
    exact ⟨k, h1, h2, by simpa [Nat.mul_comm] using h⟩
theorem dec_nil {a n : Nat} (h : decFrom a [] = some n) : n = a := by simp only [decFrom, Option.some.injEq] at h; exact h.symm

theorem dateRead_some {l : List UInt8} {D : Nat} (h : dateRead l = some D) : ∃ y m d, DateOk y m d ∧ D = dayNo y m d ∧ l = fmtL y m d := by
  unfold dateRead at h
  split at h
  · rename_i hc
    obtain ⟨hl, h4, h7⟩ := hc
    match l, hl with
    | [a0, a1, a2, a3, s, b0, b1, t, c0, c1], _ =>
      simp only [List.getElem?_cons_succ, List.getElem?_cons_zero, Option.some.injEq] at h4 h7
      subst h4 h7
      simp only [List.take_succ_cons, List.take_zero, List.drop_succ_cons, List.drop_zero] at h
      split at h
      · rename_i y m d e1 e2 e3
        split at h
        · rename_i hv
          injection h with h
          obtain ⟨k0, g0, rfl, xk0⟩ := dec_cons e1
          obtain ⟨k1, g1, rfl, xk1⟩ := dec_cons xk0
          obtain ⟨k2, g2, rfl, xk2⟩ := dec_cons xk1
          obtain ⟨k3, g3, rfl, xk3⟩ := dec_cons xk2
          have hy := dec_nil xk3
          obtain ⟨p0, q0, rfl, xp0⟩ := dec_cons e2
          obtain ⟨p1, q1, rfl, xp1⟩ := dec_cons xp0
          have hm := dec_nil xp1
          obtain ⟨r0, s0, rfl, xr0⟩ := dec_cons e3
          obtain ⟨r1, s1, rfl, xr1⟩ := dec_cons xr0
          have hd := dec_nil xr1
          have hok : DateOk y m d := ⟨hv.1, hv.2.1, hv.2.2.1, hv.2.2.2.1, hv.2.2.2.2.1, hv.2.2.2.2.2⟩
          refine ⟨y, m, d, hok, h.symm, ?_⟩
          rw [fmt_eq hok]
          have w1 := hv.1
          have w2 := hv.2.1
          rw [show k0 = 2 by omega, show k1 = 0 by omega, show y / 10 % 10 = k2 by omega, show y % 10 = k3 by omega, show m / 10 = p0 by omega, show m % 10 = p1 by omega, show d / 10 = r0 by omega, show d % 10 = r1 by omega]
          rfl
        · cases h
      · cases h
  · cases h
theorem dec_step {k : Nat} (hk : k < 10) (a : Nat) (r : List UInt8) : decFrom a (UInt8.ofNat (48 + k) :: r) = decFrom (10 * a + k) r := by
  simp only [decFrom, digitVal_of hk]
  congr 1
  omega
theorem dateRead_fmt {y m d : Nat} (h : DateOk y m d) : dateRead (fmtL y m d) = some (dayNo y m d) := by
  have h0 := h.y0
  have h1 := h.y1
  have h2 := h.m1
  have h3 := h.d31
  rw [fmt_eq h]
  unfold dateRead
  rw [if_pos ⟨rfl, rfl, rfl⟩]
  simp only [List.take_succ_cons, List.take_zero, List.drop_succ_cons, List.drop_zero]
  have e1 : decFrom 0 [(50 : UInt8), 48, UInt8.ofNat (48 + y / 10 % 10), UInt8.ofNat (48 + y % 10)] = some y := by
    rw [show (50 : UInt8) = UInt8.ofNat (48 + 2) from rfl, show (48 : UInt8) = UInt8.ofNat (48 + 0) from rfl, dec_step (by omega), dec_step (by omega), dec_step (by omega), dec_step (by omega)]
    simp only [decFrom, Option.some.injEq]
    omega
  have e2 : decFrom 0 [UInt8.ofNat (48 + m / 10), UInt8.ofNat (48 + m % 10)] = some m := by
    rw [dec_step (by omega), dec_step (by omega)]
    simp only [decFrom, Option.some.injEq]
    omega
  have e3 : decFrom 0 [UInt8.ofNat (48 + d / 10), UInt8.ofNat (48 + d % 10)] = some d := by
    rw [dec_step (by omega), dec_step (by omega)]
    simp only [decFrom, Option.some.injEq]
    omega
  rw [e1, e2, e3]
  simp only
  rw [if_pos ⟨h.y0, h.y1, h.m0, h.m1, h.d0, h.d1⟩]

/-- digits, also with leading zeros; 0 where there are none -/
def digN (p : List UInt8) : Nat := if p = [] ∨ 18 < p.length then 0 else (decFrom 0 p).getD 0
theorem digN_dec {n : Nat} (h : n < 10000) : digN (decDigits n) = n := by
  unfold digN
  rw [if_neg, dec_digits]
  · rfl
  · rintro (h1 | h1)
    · exact decDigits_ne n h1
    · have : (decDigits n).length ≤ 4 := by
        by_cases a : n < 10
        · rw [decDigits_one a]; simp
        · rw [decDigits_big a]
          by_cases b : n / 10 < 10
          · rw [decDigits_one b]; simp
          · rw [decDigits_big b]
            by_cases c : n / 10 / 10 < 10
            · rw [decDigits_one c]; simp
            · rw [decDigits_big c, decDigits_one (show n / 10 / 10 / 10 < 10 by omega)]; simp
      omega
theorem digN_two {n : Nat} (h : n < 100) : digN (twoL n) = n := by
  rw [twoL_eq h]
  unfold digN
  rw [if_neg (by simp), dec_step (by omega), dec_step (by omega)]
  simp only [decFrom, Option.getD_some]
  omega
theorem dig_ne45 {n : Nat} (h : n < 10) : (45 : UInt8) ≠ UInt8.ofNat (48 + n) := fun e => by
  have := congrArg UInt8.toNat e
  rw [ofNat_toNat8 (by omega)] at this
  simp at this
  omega
theorem two_no45 {n : Nat} (h : n < 100) : (45 : UInt8) ∉ twoL n := fun hm => by
  rw [twoL_eq h] at hm
  simp only [List.mem_cons, List.mem_nil_iff, or_false] at hm
  rcases hm with e | e
  · exact dig_ne45 (by omega) e
  · exact dig_ne45 (by omega) e
theorem year_no45 {y : Nat} (h0 : 2000 ≤ y) (h1 : y ≤ 2099) : (45 : UInt8) ∉ itoa (y : Int) := fun hm => by
  rw [year_eq h0 h1] at hm
  simp only [List.mem_cons, List.mem_nil_iff, or_false] at hm
  rcases hm with e | e | e | e
  · exact absurd e (by decide)
  · exact absurd e (by decide)
  · exact dig_ne45 (by omega) e
  · exact dig_ne45 (by omega) e
/-- the text's pieces, and the numbers in them -/
theorem fmt_cuts {y m d : Nat} (h : DateOk y m d) : cutsL 45 (fmtL y m d) = [itoa (y : Int), twoL m, twoL d] ∧ digN (itoa (y : Int)) = y ∧ digN (twoL m) = m ∧ digN (twoL d) = d := by
  have h2 := h.m1
  have h3 := h.d31
  have h1 := h.y1
  refine ⟨?_, by rw [itoa_nat]; exact digN_dec (by omega), digN_two (by omega), digN_two (by omega)⟩
  unfold fmtL
  rw [cuts_app (year_no45 h.y0 h.y1), cuts_app (two_no45 (by omega)), cuts_none (two_no45 (by omega))]
/-- reading by the pieces: a date there is, and its text is the text -/
theorem read_pieces {l : List UInt8} {D : Nat} (h : dateRead l = some D) : ∃ y m d, DateOk y m d ∧ D = dayNo y m d ∧ ∃ p q r, cutsL 45 l = [p, q, r] ∧ digN p = y ∧ digN q = m ∧ digN r = d ∧ fmtL y m d = l := by
  obtain ⟨y, m, d, h1, h2, rfl⟩ := dateRead_some h
  obtain ⟨e1, e2, e3, e4⟩ := fmt_cuts h1
  exact ⟨y, m, d, h1, h2, _, _, _, e1, e2, e3, e4, rfl⟩
theorem fmt_noblank {y m d : Nat} (h : DateOk y m d) : (32 : UInt8) ∉ fmtL y m d := fun hm => by
  have h2 := h.m1
  have h3 := h.d31
  have ne : ∀ n, n < 10 → (32 : UInt8) ≠ UInt8.ofNat (48 + n) := fun n hn e => by
    have := congrArg UInt8.toNat e
    rw [ofNat_toNat8 (by omega)] at this
    simp at this
    omega
  rw [fmt_eq h] at hm
  simp only [List.mem_cons, List.mem_nil_iff, or_false] at hm
  rcases hm with e | e | e | e | e | e | e | e | e | e
  · exact absurd e (by decide)
  · exact absurd e (by decide)
  · exact ne _ (by omega) e
  · exact ne _ (by omega) e
  · exact absurd e (by decide)
  · exact ne _ (by omega) e
  · exact ne _ (by omega) e
  · exact absurd e (by decide)
  · exact ne _ (by omega) e
  · exact ne _ (by omega) e
theorem dateL_of_read {l : List UInt8} {D : Nat} (h : dateRead l = some D) : dateL D = l ∧ D ≤ 36524 := by
  obtain ⟨y, m, d, h1, rfl, rfl⟩ := dateRead_some h
  exact ⟨dateL_of h1, dayNo_le h1⟩
/-- every day has a date -/
theorem date_ex {D : Nat} (h : D ≤ 36524) : ∃ y m d, DateOk y m d ∧ dayNo y m d = D := by
  obtain ⟨k, hk, h1, h2⟩ : ∃ k, k ≤ 99 ∧ yAcc k ≤ D ∧ D < yAcc (k + 1) := by
    have : ∀ n, n ≤ 100 → D < yAcc n → ∃ k, k < n ∧ yAcc k ≤ D ∧ D < yAcc (k + 1) := by
      intro n
      induction n with
      | zero => intro _ h; simp [yAcc] at h
      | succ n ih =>
        intro hn hD
        rcases Nat.lt_or_ge D (yAcc n) with h3 | h3
        · obtain ⟨k, a, b, c⟩ := ih (by omega) h3
          exact ⟨k, by omega, b, c⟩
        · exact ⟨n, by omega, h3, hD⟩
    obtain ⟨k, a, b, c⟩ := this 100 (Nat.le_refl _) (show D < 36525 by omega)
    exact ⟨k, by omega, b, c⟩
  have hn := yAcc_next (y := 2000 + k) (by omega)
  rw [Nat.add_sub_cancel_left] at hn
  obtain ⟨j, hj, h3, h4⟩ : ∃ j, j < 12 ∧ mAcc (leapB (2000 + k)) j ≤ D - yAcc k ∧ D - yAcc k < mAcc (leapB (2000 + k)) (j + 1) := by
    have : ∀ n, D - yAcc k < mAcc (leapB (2000 + k)) n → ∃ j, j < n ∧ mAcc (leapB (2000 + k)) j ≤ D - yAcc k ∧ D - yAcc k < mAcc (leapB (2000 + k)) (j + 1) := by
      intro n
      induction n with
      | zero => intro h; simp [mAcc] at h
      | succ n ih =>
        intro hD
        rcases Nat.lt_or_ge (D - yAcc k) (mAcc (leapB (2000 + k)) n) with h5 | h5
        · obtain ⟨j, a, b, c⟩ := ih h5
          exact ⟨j, by omega, b, c⟩
        · exact ⟨n, by omega, h5, hD⟩
    exact this 12 (by omega)
  rw [mAcc] at h4
  refine ⟨2000 + k, j + 1, D - yAcc k - mAcc (leapB (2000 + k)) j + 1, ⟨by omega, by omega, by omega, by omega, by omega, by omega⟩, ?_⟩
  unfold dayNo
  rw [Nat.add_sub_cancel_left, Nat.add_sub_cancel, Nat.add_sub_cancel]
  omega
theorem dateL_read {D : Nat} (h : D ≤ 36524) : dateRead (dateL D) = some D := by
  obtain ⟨y, m, d, h1, rfl⟩ := date_ex h
  rw [dateL_of h1]
  exact dateRead_fmt h1
end Go.Proofs.YtdkpgcnjlamcbaaGreatDoor
