/- Rentals: the walks of the small functions, both sides. Printed by a program of mine. -/
import Derived.Test.YthfedegmplmgfaaGreatDoorRows
import Derived.Test.YthfedegmplmgfaaGreatDoorRentLaw
import Derived.Test.YthfedegmplmgfaaGreatDoorIReads
import Derived.Test.YthfedegmplmgfaaGreatDoorTwo
import Derived.Test.YthfedegmplmgfaaGreatDoorSrc
import Derived.Deep.RegionHeld3
namespace Go.Proofs.YthfedegmplmgfaaGreatDoor
set_option linter.unusedVariables false
set_option linter.unusedSimpArgs false
set_option linter.unusedSectionVars false
open Go.RowKit

theorem wid {n : Int} (h : -9223372036854775808 ≤ n ∧ n ≤ 9223372036854775807) : IntKind.i64.wrap n = n := by rw [IntKind.wrap_i64]; omega
set_option maxRecDepth 100000 in
set_option maxHeartbeats 2000000 in
theorem i_end (x : DRental) (w : World) (h : RB x) :
    Calls Tryz.prog 26 #[.agg #[.string x.fId, .string x.fItem, .int .i64 x.fDay, .int .i64 x.fMonths, .int .i64 x.fFee]] w fun e w' => e = .returned (.int .i64 (endR x)) ∧ Below w.heap.size w w' := by
  have d0 := h.d0; have d1 := h.d1; have m0 := h.m0; have m1 := h.m1
  have hR := range_new w #[.string x.fId, .string x.fItem, .int .i64 x.fDay, .int .i64 x.fMonths, .int .i64 x.fFee] 37
  have hb0 : Below w.heap.size w (w.alloc (.cells #[.string x.fId, .string x.fItem, .int .i64 x.fDay, .int .i64 x.fMonths, .int .i64 x.fFee] 37)) := (Below.refl _ _).alloc (Nat.le_refl _) _
  go_enter Tryz.func26, Tryz.ntmps26
  go_wp2
  go_ret
  exact ⟨rfl, hb0⟩
set_option maxRecDepth 100000 in
set_option maxHeartbeats 2000000 in
theorem i_end' (x : DRental) (w : World) (hd : 0 ≤ x.fDay ∧ x.fDay ≤ 100000) (hm : 0 ≤ x.fMonths ∧ x.fMonths ≤ 120) :
    Calls Tryz.prog 26 #[.agg #[.string x.fId, .string x.fItem, .int .i64 x.fDay, .int .i64 x.fMonths, .int .i64 x.fFee]] w fun e w' => e = .returned (.int .i64 (endR x)) ∧ Below w.heap.size w w' := by
  have d0 := hd.1; have d1 := hd.2; have m0 := hm.1; have m1 := hm.2
  have hR := range_new w #[.string x.fId, .string x.fItem, .int .i64 x.fDay, .int .i64 x.fMonths, .int .i64 x.fFee] 37
  have hb0 : Below w.heap.size w (w.alloc (.cells #[.string x.fId, .string x.fItem, .int .i64 x.fDay, .int .i64 x.fMonths, .int .i64 x.fFee] 37)) := (Below.refl _ _).alloc (Nat.le_refl _) _
  go_enter Tryz.func26, Tryz.ntmps26
  go_wp2
  go_ret
  exact ⟨rfl, hb0⟩
set_option maxRecDepth 100000 in
set_option maxHeartbeats 2000000 in
theorem i_due (x : DRental) (d : Int) (w : World) (h : RB x) (h0 : -1 ≤ d) (h1 : d ≤ 100000) :
    Calls Tryz.prog 28 #[.agg #[.string x.fId, .string x.fItem, .int .i64 x.fDay, .int .i64 x.fMonths, .int .i64 x.fFee], .int .i64 d] w fun e w' => e = .returned (.int .i64 (dueR x d)) ∧ Below w.heap.size w w' := by
  have d0 := h.d0; have d1 := h.d1; have m0 := h.m0; have m1 := h.m1; have f0 := h.f0; have f1 := h.f1
  have hd := h.due d
  have hR := range_new w #[.string x.fId, .string x.fItem, .int .i64 x.fDay, .int .i64 x.fMonths, .int .i64 x.fFee] 37
  have hb0 : Below w.heap.size w (w.alloc (.cells #[.string x.fId, .string x.fItem, .int .i64 x.fDay, .int .i64 x.fMonths, .int .i64 x.fFee] 37)) := (Below.refl _ _).alloc (Nat.le_refl _) _
  by_cases hlt : d < x.fDay
  · have E : Hid (dueR x d = 0) := Lib.hid (by unfold dueR; rw [if_pos hlt])
    go_enter Tryz.func28, Tryz.ntmps28
    go_wp2
    go_ret
    exact ⟨ret_int E.out.symm, hb0⟩
  · have E : Hid (dueR x d = x.fFee * min x.fMonths ((d - x.fDay) / 30 + 1)) := Lib.hid (by unfold dueR; rw [if_neg hlt])
    rw [E.out] at hd
    have q1 : (d - x.fDay).tdiv 30 = (d - x.fDay) / 30 := Int.tdiv_eq_ediv_of_nonneg (by omega)
    obtain ⟨q, hq⟩ : ∃ q, (d - x.fDay) / 30 = q := ⟨_, rfl⟩
    have hq1 : 0 ≤ q ∧ q ≤ 100000 := by omega
    rw [hq] at q1 hd E
    obtain ⟨p, hp⟩ : ∃ p, min x.fMonths (q + 1) = p := ⟨_, rfl⟩
    rw [hp] at hd E
    have hp1 : 0 ≤ p ∧ p ≤ 12 := by omega
    have q2 : IntKind.i64.wrap (x.fFee * p) = x.fFee * p := wid (by omega)
    clear hq
    go_enter Tryz.func28, Tryz.ntmps28
    go_wp2
    go_ret
    exact ⟨ret_int E.out.symm, hb0⟩
theorem i_isRentDay' (n : Int) (w : World) (h : 0 ≤ n ∧ n ≤ 100000) : Calls Tryz.prog 24 #[.int .i64 n] w fun e w' => e = .returned (.bool true) ∧ w = w' := by
  have h1 := i_isRentDay n w
  rw [inB_true h.1 h.2] at h1
  exact h1
set_option maxRecDepth 100000 in
set_option maxHeartbeats 2000000 in
theorem i_EndOf (x : DRental) (w : World) (hok : okRental x = true) (hs : x.fId.size ≤ maxLen ∧ x.fItem.size ≤ maxLen) (h : RB x) :
    Calls Tryz.prog 11 #[.agg #[.string x.fId, .string x.fItem, .int .i64 x.fDay, .int .i64 x.fMonths, .int .i64 x.fFee]] w fun e w' => e = .returned (.tuple #[.int .i64 (endR x), .int .i64 0]) ∧ Below w.heap.size w w' := by
  have hV := fun W => i_validRental x W hs.1 hs.2
  rw [hok] at hV
  have hC := fun W => i_end x W h
  have hR := range_new w #[.string x.fId, .string x.fItem, .int .i64 x.fDay, .int .i64 x.fMonths, .int .i64 x.fFee] 37
  have hb0 : Below w.heap.size w (w.alloc (.cells #[.string x.fId, .string x.fItem, .int .i64 x.fDay, .int .i64 x.fMonths, .int .i64 x.fFee] 37)) := (Below.refl _ _).alloc (Nat.le_refl _) _
  obtain ⟨W0, hW0⟩ : ∃ W0, w.alloc (.cells #[.string x.fId, .string x.fItem, .int .i64 x.fDay, .int .i64 x.fMonths, .int .i64 x.fFee] 37) = W0 := ⟨_, rfl⟩
  rw [hW0] at hR hb0
  have hx0 := hR 0 _ rfl
  have hx1 := hR 1 _ rfl
  have hx2 := hR 2 _ rfl
  have hx3 := hR 3 _ rfl
  have hx4 := hR 4 _ rfl
  simp only [Nat.zero_add] at hx0 hx1 hx2 hx3 hx4
  clear hR
  go_enter Tryz.func11, Tryz.ntmps11
  go_wp2_with fail
  try rw [hW0]
  clear hW0
  refine (hV _).mono ?_
  rintro e w1 ⟨rfl, hb1⟩
  replace hx0 := cell_later hb1 hx0
  replace hx1 := cell_later hb1 hx1
  replace hx2 := cell_later hb1 hx2
  replace hx3 := cell_later hb1 hx3
  replace hx4 := cell_later hb1 hx4
  replace hb0 := hb0.trans (hb1.mono hb0.size)
  clear hV hb1
  go_wp2_with fail
  refine (hC _).mono ?_
  rintro e w2 ⟨rfl, hb2⟩
  clear hC
  go_wp2
  go_ret2
  exact ⟨rfl, hb0.trans (hb2.mono hb0.size)⟩
set_option maxRecDepth 100000 in
set_option maxHeartbeats 2000000 in
theorem i_DueBy (x : DRental) (d : Int) (w : World) (hok : okRental x = true) (hs : x.fId.size ≤ maxLen ∧ x.fItem.size ≤ maxLen) (h : RB x) (h0 : 0 ≤ d) (h1 : d ≤ 100000) :
    Calls Tryz.prog 12 #[.agg #[.string x.fId, .string x.fItem, .int .i64 x.fDay, .int .i64 x.fMonths, .int .i64 x.fFee], .int .i64 d] w fun e w' => e = .returned (.tuple #[.int .i64 (dueR x d), .int .i64 0]) ∧ Below w.heap.size w w' := by
  have hV := fun W => i_validRental x W hs.1 hs.2
  rw [hok] at hV
  have hC := fun W => i_due x d W h (by omega) h1
  have hM := fun W => i_isRentDay' d W ⟨h0, h1⟩
  have hR := range_new w #[.string x.fId, .string x.fItem, .int .i64 x.fDay, .int .i64 x.fMonths, .int .i64 x.fFee] 37
  have hb0 : Below w.heap.size w (w.alloc (.cells #[.string x.fId, .string x.fItem, .int .i64 x.fDay, .int .i64 x.fMonths, .int .i64 x.fFee] 37)) := (Below.refl _ _).alloc (Nat.le_refl _) _
  obtain ⟨W0, hW0⟩ : ∃ W0, w.alloc (.cells #[.string x.fId, .string x.fItem, .int .i64 x.fDay, .int .i64 x.fMonths, .int .i64 x.fFee] 37) = W0 := ⟨_, rfl⟩
  rw [hW0] at hR hb0
  have hx0 := hR 0 _ rfl
  have hx1 := hR 1 _ rfl
  have hx2 := hR 2 _ rfl
  have hx3 := hR 3 _ rfl
  have hx4 := hR 4 _ rfl
  simp only [Nat.zero_add] at hx0 hx1 hx2 hx3 hx4
  clear hR
  go_enter Tryz.func12, Tryz.ntmps12
  go_wp2_with fail
  try rw [hW0]
  clear hW0
  refine (hV _).mono ?_
  rintro e w1 ⟨rfl, hb1⟩
  replace hx0 := cell_later hb1 hx0
  replace hx1 := cell_later hb1 hx1
  replace hx2 := cell_later hb1 hx2
  replace hx3 := cell_later hb1 hx3
  replace hx4 := cell_later hb1 hx4
  replace hb0 := hb0.trans (hb1.mono hb0.size)
  clear hV hb1
  go_wp2_with fail
  refine (hM _).mono ?_
  rintro e w2 ⟨rfl, rfl⟩
  clear hM
  go_wp2_with fail
  refine (hC _).mono ?_
  rintro e w2 ⟨rfl, hb2⟩
  clear hC
  go_wp2
  go_ret2
  exact ⟨rfl, hb0.trans (hb2.mono hb0.size)⟩
set_option maxRecDepth 100000 in
set_option maxHeartbeats 2000000 in
theorem i_BuyPrice (x : DRental) (d v s : Int) (w : World) (hok : okRental x = true) (hs : x.fId.size ≤ maxLen ∧ x.fItem.size ≤ maxLen) (h : RB x) (h0 : 0 ≤ d) (h1 : d ≤ 100000) (v0 : 0 ≤ v) (v1 : v ≤ 10000000) (s0 : 0 ≤ s) (s1 : s ≤ 1000) :
    Calls Tryz.prog 19 #[.agg #[.string x.fId, .string x.fItem, .int .i64 x.fDay, .int .i64 x.fMonths, .int .i64 x.fFee], .int .i64 d, .int .i64 v, .int .i64 s] w fun e w' => e = .returned (.tuple #[.int .i64 (max 0 (v - s * dueR x d / 1000)), .int .i64 0]) ∧ Below w.heap.size w w' := by
  have hV := fun W => i_validRental x W hs.1 hs.2
  rw [hok] at hV
  have hC := fun W => i_due x d W h (by omega) h1
  have hM := fun W => i_isRentDay' d W ⟨h0, h1⟩
  have hN := fun W => i_isMoney v W
  rw [inB_true v0 v1] at hN
  have hS := fun W => i_isShare s W
  rw [inB_true s0 s1] at hS
  have hdu := h.due d
  obtain ⟨D, hD⟩ : ∃ D, dueR x d = D := ⟨_, rfl⟩
  rw [hD] at hC hdu ⊢
  have hsd : 0 ≤ s * D ∧ s * D ≤ 58800000 := ⟨Int.mul_nonneg s0 hdu.1, Int.le_trans (Int.mul_le_mul_of_nonneg_right s1 hdu.1) (by omega)⟩
  have q1 : IntKind.i64.wrap (s * D) = s * D := wid (by omega)
  have q2 : (s * D).tdiv 1000 = s * D / 1000 := Int.tdiv_eq_ediv_of_nonneg hsd.1
  obtain ⟨Q, hQ⟩ : ∃ Q, s * D / 1000 = Q := ⟨_, rfl⟩
  have hq : 0 ≤ Q ∧ Q ≤ 58800 := by omega
  rw [hQ] at q2 ⊢
  clear hD hQ h
  have hR := range_new w #[.string x.fId, .string x.fItem, .int .i64 x.fDay, .int .i64 x.fMonths, .int .i64 x.fFee] 37
  have hb0 : Below w.heap.size w (w.alloc (.cells #[.string x.fId, .string x.fItem, .int .i64 x.fDay, .int .i64 x.fMonths, .int .i64 x.fFee] 37)) := (Below.refl _ _).alloc (Nat.le_refl _) _
  obtain ⟨W0, hW0⟩ : ∃ W0, w.alloc (.cells #[.string x.fId, .string x.fItem, .int .i64 x.fDay, .int .i64 x.fMonths, .int .i64 x.fFee] 37) = W0 := ⟨_, rfl⟩
  rw [hW0] at hR hb0
  have hx0 := hR 0 _ rfl
  have hx1 := hR 1 _ rfl
  have hx2 := hR 2 _ rfl
  have hx3 := hR 3 _ rfl
  have hx4 := hR 4 _ rfl
  simp only [Nat.zero_add] at hx0 hx1 hx2 hx3 hx4
  clear hR
  go_enter Tryz.func19, Tryz.ntmps19
  go_wp2_with fail
  try rw [hW0]
  clear hW0
  refine (hV _).mono ?_
  rintro e w1 ⟨rfl, hb1⟩
  replace hx0 := cell_later hb1 hx0
  replace hx1 := cell_later hb1 hx1
  replace hx2 := cell_later hb1 hx2
  replace hx3 := cell_later hb1 hx3
  replace hx4 := cell_later hb1 hx4
  replace hb0 := hb0.trans (hb1.mono hb0.size)
  clear hV hb1
  go_wp2_with fail
  refine (hM _).mono ?_
  rintro e w2 ⟨rfl, rfl⟩
  clear hM
  go_wp2_with fail
  refine (hN _).mono ?_
  rintro e w2 ⟨rfl, rfl⟩
  clear hN
  go_wp2_with fail
  refine (hS _).mono ?_
  rintro e w2 ⟨rfl, rfl⟩
  clear hS
  go_wp2_with fail
  refine (hC _).mono ?_
  rintro e w2 ⟨rfl, hb2⟩
  clear hC
  go_wp2
  go_ret2
  exact ⟨rfl, hb0.trans (hb2.mono hb0.size)⟩
def ManyR (fee v s : Int) (w : World) (e : Ending) (w' : World) : Prop :=
  ((∃ n : Nat, n ≤ 120 ∧ v ≤ s * n * fee / 1000 ∧ (∀ j : Nat, j < n → s * j * fee / 1000 < v) ∧ e = .returned (.tuple #[.int .i64 n, .int .i64 0])) ∨ ((∀ j : Nat, j ≤ 120 → s * j * fee / 1000 < v) ∧ e = .returned (.tuple #[.int .i64 0, .int .i64 3]))) ∧ Below w.heap.size w w'
set_option maxRecDepth 100000 in
set_option maxHeartbeats 2000000 in
theorem i_MonthsToBuy (fee v s : Int) (w : World) (f0 : 0 ≤ fee) (f1 : fee ≤ 4900) (v0 : 0 ≤ v) (v1 : v ≤ 10000000) (s0 : 0 ≤ s) (s1 : s ≤ 1000) :
    Calls Tryz.prog 20 #[.int .i64 fee, .int .i64 v, .int .i64 s] w (ManyR fee v s w) := by
  have hM := fun W => i_isMoney fee W
  rw [inB_true f0 (by omega)] at hM
  have hN := fun W => i_isMoney v W
  rw [inB_true v0 v1] at hN
  have hS := fun W => i_isShare s W
  rw [inB_true s0 s1] at hS
  go_enter Tryz.func20, Tryz.ntmps20
  go_wp2_with fail
  refine (hM _).mono ?_
  rintro e w' ⟨rfl, rfl⟩
  go_wp2_with fail
  refine (hN _).mono ?_
  rintro e w' ⟨rfl, rfl⟩
  go_wp2_with fail
  refine (hS _).mono ?_
  rintro e w' ⟨rfl, rfl⟩
  clear hM hN hS
  go_wp2_with fail
  go_loopw [8] (fun i wr => ∃ k : Nat, k ≤ 121 ∧ i = .int .i64 k ∧ Hid (∀ j : Nat, j < k → s * j * fee / 1000 < v) ∧ Below w.heap.size w wr) (fun i _ => 121 - (intOf i).toNat)
  case atStart => exact ⟨0, by omega, rfl, Lib.hid fun j hj => by omega, Below.refl _ _⟩
  case round =>
    obtain ⟨k, hk, rfl, HK, hb⟩ := hrel
    by_cases hlt : k ≤ 120
    · have p1 : 0 ≤ s * (k : Int) ∧ s * (k : Int) ≤ 120000 := ⟨Int.mul_nonneg s0 (by omega), Int.le_trans (Int.mul_le_mul_of_nonneg_right s1 (by omega)) (by omega)⟩
      have HP : Hid (∀ P : Int, s * (k : Int) = P → s * (k : Int) * fee / 1000 = P * fee / 1000) := Lib.hid fun P h => by rw [h]
      have q0 : IntKind.i64.wrap (s * (k : Int)) = s * (k : Int) := wid (by omega)
      obtain ⟨P, hP⟩ : ∃ P, s * (k : Int) = P := ⟨_, rfl⟩
      have HE := Lib.hid (HP.out P hP)
      rw [hP] at p1 q0
      have p2 : 0 ≤ P * fee ∧ P * fee ≤ 588000000 := ⟨Int.mul_nonneg p1.1 f0, Int.le_trans (Int.mul_le_mul_of_nonneg_right p1.2 f0) (by omega)⟩
      have q1 : IntKind.i64.wrap (P * fee) = P * fee := wid (by omega)
      have q2 : (P * fee).tdiv 1000 = P * fee / 1000 := Int.tdiv_eq_ediv_of_nonneg p2.1
      obtain ⟨Q, hQ⟩ : ∃ Q, P * fee / 1000 = Q := ⟨_, rfl⟩
      have hq : 0 ≤ Q ∧ Q ≤ 588000 := by omega
      rw [hQ] at q2 HE
      clear HP hQ p1 p2
      by_cases hge : v ≤ Q
      · go_wp2
        go_ret2
        exact ⟨.inl ⟨k, hlt, by rw [HE.out]; exact hge, HK.out, rfl⟩, hb⟩
      · have HN : Hid (∀ j : Nat, j < k + 1 → s * j * fee / 1000 < v) := Lib.hid fun j hj => by
          rcases Nat.lt_or_ge j k with h | h
          · exact HK.out j h
          · obtain rfl : j = k := by omega
            rw [HE.out]; omega
        go_wp2
        first | (refine ⟨⟨k + 1, by omega, by go_num, HN, hb⟩, ?_⟩; (simp [intOf]; omega)) | (go_roundw; (case rel => first | exact ⟨k + 1, by omega, by go_num, HN, hb⟩ | ((try refine ⟨trivial, ?_⟩); (repeat apply Exists.intro); exact ⟨⟨k + 1, by omega, by go_num, HN, hb⟩, rfl⟩)); (case measure => (simp [intOf]; omega)))
    · have HN : Hid (∀ j : Nat, j ≤ 120 → s * j * fee / 1000 < v) := Lib.hid fun j hj => HK.out j (by omega)
      go_wp2
      go_ret2
      exact ⟨.inr ⟨HN.out, rfl⟩, hb⟩
set_option maxRecDepth 100000 in
set_option maxHeartbeats 2000000 in
theorem i_clashes (x y : DRental) (w : World) (h : RB x) (hy0 : 0 ≤ y.fDay ∧ y.fDay ≤ 100000) (hy1 : 0 ≤ y.fMonths ∧ y.fMonths ≤ 120) :
    Calls Tryz.prog 27 #[.agg #[.string x.fId, .string x.fItem, .int .i64 x.fDay, .int .i64 x.fMonths, .int .i64 x.fFee], .agg #[.string y.fId, .string y.fItem, .int .i64 y.fDay, .int .i64 y.fMonths, .int .i64 y.fFee]] w (RetB (clashR x y) w) := by
  rcases hit : x.fItem.toList == y.fItem.toList with _ | _
  · have E : Hid (clashR x y = false) := Lib.hid (by unfold clashR; rw [hit]; rfl)
    have hR := range_new w #[.string x.fId, .string x.fItem, .int .i64 x.fDay, .int .i64 x.fMonths, .int .i64 x.fFee] 37
    obtain ⟨W0, hW0⟩ : ∃ W0, w.alloc (.cells #[.string x.fId, .string x.fItem, .int .i64 x.fDay, .int .i64 x.fMonths, .int .i64 x.fFee] 37) = W0 := ⟨_, rfl⟩
    have hb0 : Below w.heap.size w W0 := hW0 ▸ (Below.refl _ _).alloc (Nat.le_refl _) _
    have z0 : W0.heap.size = w.heap.size + 1 := by rw [← hW0]; simp
    rw [hW0] at hR
    have hS := range_new W0 #[.string y.fId, .string y.fItem, .int .i64 y.fDay, .int .i64 y.fMonths, .int .i64 y.fFee] 37
    obtain ⟨W1, hW1⟩ : ∃ W1, W0.alloc (.cells #[.string y.fId, .string y.fItem, .int .i64 y.fDay, .int .i64 y.fMonths, .int .i64 y.fFee] 37) = W1 := ⟨_, rfl⟩
    have hba : Below W0.heap.size W0 W1 := hW1 ▸ (Below.refl _ _).alloc (Nat.le_refl _) _
    replace hb0 := hb0.trans (hba.mono hb0.size)
    rw [hW1, z0] at hS
    have hR1 := range_below (B := 0) hR hba
    have hx0 := hR1 0 _ rfl
    have hx1 := hR1 1 _ rfl
    have hx2 := hR1 2 _ rfl
    have hx3 := hR1 3 _ rfl
    have hx4 := hR1 4 _ rfl
    simp only [Nat.zero_add] at hx0 hx1 hx2 hx3 hx4
    have hy0 := hS 0 _ rfl
    have hy1 := hS 1 _ rfl
    have hy2 := hS 2 _ rfl
    have hy3 := hS 3 _ rfl
    have hy4 := hS 4 _ rfl
    simp only [Nat.zero_add] at hy0 hy1 hy2 hy3 hy4
    clear hR hR1 hS hba
    go_enter Tryz.func27, Tryz.ntmps27
    go_wp2_with fail
    try rw [hW0]
    try rw [hW1]
    clear hW0 hW1 z0
    go_quiet (fail)
    go_wp2
    go_ret
    exact ⟨ret_bool E.out.symm, below_drewN hb0 _⟩
  · have d0 := h.d0; have d1 := h.d1
    have he1 := h.end_
    have he2 : -3000 ≤ endR y ∧ endR y ≤ 200000 := by unfold endR; omega
    have C1 := fun W => i_end x W h
    have C2 := fun W => i_end' y W hy0 hy1
    have E : Hid (clashR x y = decide (max x.fDay y.fDay < min (endR x) (endR y))) := Lib.hid (by unfold clashR; rw [hit]; rfl)
    obtain ⟨p, hp⟩ : ∃ p, endR x = p := ⟨_, rfl⟩
    obtain ⟨q, hq⟩ : ∃ q, endR y = q := ⟨_, rfl⟩
    rw [hp] at C1 E
    rw [hq] at C2 E
    have K1 := Lib.hid C1
    have K2 := Lib.hid C2
    clear hp hq he1 he2 C1 C2
    have hR := range_new w #[.string x.fId, .string x.fItem, .int .i64 x.fDay, .int .i64 x.fMonths, .int .i64 x.fFee] 37
    obtain ⟨W0, hW0⟩ : ∃ W0, w.alloc (.cells #[.string x.fId, .string x.fItem, .int .i64 x.fDay, .int .i64 x.fMonths, .int .i64 x.fFee] 37) = W0 := ⟨_, rfl⟩
    have hb0 : Below w.heap.size w W0 := hW0 ▸ (Below.refl _ _).alloc (Nat.le_refl _) _
    have z0 : W0.heap.size = w.heap.size + 1 := by rw [← hW0]; simp
    rw [hW0] at hR
    have hS := range_new W0 #[.string y.fId, .string y.fItem, .int .i64 y.fDay, .int .i64 y.fMonths, .int .i64 y.fFee] 37
    obtain ⟨W1, hW1⟩ : ∃ W1, W0.alloc (.cells #[.string y.fId, .string y.fItem, .int .i64 y.fDay, .int .i64 y.fMonths, .int .i64 y.fFee] 37) = W1 := ⟨_, rfl⟩
    have hba : Below W0.heap.size W0 W1 := hW1 ▸ (Below.refl _ _).alloc (Nat.le_refl _) _
    replace hb0 := hb0.trans (hba.mono hb0.size)
    rw [hW1, z0] at hS
    have hR1 := range_below (B := 0) hR hba
    have hx0 := hR1 0 _ rfl
    have hx1 := hR1 1 _ rfl
    have hx2 := hR1 2 _ rfl
    have hx3 := hR1 3 _ rfl
    have hx4 := hR1 4 _ rfl
    simp only [Nat.zero_add] at hx0 hx1 hx2 hx3 hx4
    have hy0 := hS 0 _ rfl
    have hy1 := hS 1 _ rfl
    have hy2 := hS 2 _ rfl
    have hy3 := hS 3 _ rfl
    have hy4 := hS 4 _ rfl
    simp only [Nat.zero_add] at hy0 hy1 hy2 hy3 hy4
    clear hR hR1 hS hba
    go_enter Tryz.func27, Tryz.ntmps27
    go_wp2_with fail
    try rw [hW0]
    try rw [hW1]
    clear hW0 hW1 z0
    go_region_held3 (fun w' => (w'.cell? ⟨w.heap.size, 0, none⟩ = some (.string x.fId) ∧ w'.cell? ⟨w.heap.size, 1, none⟩ = some (.string x.fItem) ∧ w'.cell? ⟨w.heap.size, 2, none⟩ = some (.int .i64 x.fDay) ∧ w'.cell? ⟨w.heap.size, 3, none⟩ = some (.int .i64 x.fMonths) ∧ w'.cell? ⟨w.heap.size, 4, none⟩ = some (.int .i64 x.fFee)) ∧ (w'.cell? ⟨(w.heap.size + 1), 0, none⟩ = some (.string y.fId) ∧ w'.cell? ⟨(w.heap.size + 1), 1, none⟩ = some (.string y.fItem) ∧ w'.cell? ⟨(w.heap.size + 1), 2, none⟩ = some (.int .i64 y.fDay) ∧ w'.cell? ⟨(w.heap.size + 1), 3, none⟩ = some (.int .i64 y.fMonths) ∧ w'.cell? ⟨(w.heap.size + 1), 4, none⟩ = some (.int .i64 y.fFee)) ∧ Below w.heap.size w w')
      (first | exact ⟨⟨hx0, hx1, hx2, hx3, hx4⟩, ⟨hy0, hy1, hy2, hy3, hy4⟩, hb0.drew⟩
             | (go_split_ands; exact ⟨⟨cell_later hb2 (by assumption), cell_later hb2 (by assumption), cell_later hb2 (by assumption), cell_later hb2 (by assumption), cell_later hb2 (by assumption)⟩, ⟨cell_later hb2 (by assumption), cell_later hb2 (by assumption), cell_later hb2 (by assumption), cell_later hb2 (by assumption), cell_later hb2 (by assumption)⟩, Below.trans (by assumption) (hb2.mono (Below.size (by assumption)))⟩))
      (first | (go_at_call 26; go_split_ands; first | (with_reducible show Calls Tryz.prog _ #[.agg #[.string x.fId, .string x.fItem, .int .i64 x.fDay, .int .i64 x.fMonths, .int .i64 x.fFee]] _ _; refine (K1.out _).mono ?_; rintro e w2 ⟨rfl, hb2⟩) | (with_reducible show Calls Tryz.prog _ #[.agg #[.string y.fId, .string y.fItem, .int .i64 y.fDay, .int .i64 y.fMonths, .int .i64 y.fFee]] _ _; refine (K2.out _).mono ?_; rintro e w2 ⟨rfl, hb2⟩)))
    all_goals (
      rename_i hh
      obtain ⟨_, _, hbE⟩ := hh
      go_wp2
      go_ret
      exact ⟨ret_bool E.out.symm, hbE⟩)
end Go.Proofs.YthfedegmplmgfaaGreatDoor
