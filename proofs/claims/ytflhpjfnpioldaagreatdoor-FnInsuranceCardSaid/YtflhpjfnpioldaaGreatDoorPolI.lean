/- Policies: the walks of the small functions, both sides. Printed by a program of mine. -/
import Derived.Test.YtflhpjfnpioldaaGreatDoorRows
import Derived.Test.YtflhpjfnpioldaaGreatDoorPolLaw
import Derived.Test.YtflhpjfnpioldaaGreatDoorIReads
import Derived.Deep.RegionHeld3
namespace Go.Proofs.YtflhpjfnpioldaaGreatDoor
set_option linter.unusedVariables false
set_option linter.unusedSimpArgs false
set_option linter.unusedSectionVars false
open Go.RowKit

theorem wid {n : Int} (h : -9223372036854775808 ≤ n ∧ n ≤ 9223372036854775807) : IntKind.i64.wrap n = n := by rw [IntKind.wrap_i64]; omega
theorem ret_ii {a b c d : Int} (h : a = c ∧ b = d) : Ending.returned (.tuple #[.int .i64 a, .int .i64 b]) = .returned (.tuple #[.int .i64 c, .int .i64 d]) := by rw [h.1, h.2]
set_option maxRecDepth 100000 in
set_option maxHeartbeats 2000000 in
theorem i_paid (x : DPolicy) (d : Int) (w : World) (h : PB x) (h0 : 0 ≤ d) (h1 : d ≤ 10000000) :
    Calls Tryz.prog 28 #[.agg #[.string x.fId, .int .i64 x.fPremium, .int .i64 x.fShare, .int .i64 x.fExcess, .int .i64 x.fMost], .int .i64 d] w fun e w' => e = .returned (.int .i64 (paidP x d)) ∧ Below w.heap.size w w' := by
  have s0 := h.s0; have s1 := h.s1; have e0 := h.e0; have e1 := h.e1; have m0 := h.m0; have m1 := h.m1
  have hp := h.prod (t := max 0 (d - x.fExcess)) (by omega)
  have hR := range_new w #[.string x.fId, .int .i64 x.fPremium, .int .i64 x.fShare, .int .i64 x.fExcess, .int .i64 x.fMost] 35
  have hb0 : Below w.heap.size w (w.alloc (.cells #[.string x.fId, .int .i64 x.fPremium, .int .i64 x.fShare, .int .i64 x.fExcess, .int .i64 x.fMost] 35)) := (Below.refl _ _).alloc (Nat.le_refl _) _
  go_enter Tryz.func28, Tryz.ntmps28
  go_wp2
  go_ret
  exact ⟨rfl, hb0⟩
set_option maxRecDepth 100000 in
set_option maxHeartbeats 2000000 in
theorem i_costP (x : DPolicy) (A : Option Addr) (n c : Nat) (ds : List Int) (w : World) (h : PB x) (hr : Rd intE w A n ds) (hd : Dams ds) :
    Calls Tryz.prog 23 #[.agg #[.string x.fId, .int .i64 x.fPremium, .int .i64 x.fShare, .int .i64 x.fExcess, .int .i64 x.fMost], .slice A n c] w fun e w' => e = .returned (.int .i64 (costP x ds)) ∧ Below w.heap.size w w' := by
  have p0 := h.p0; have p1 := h.p1
  have Hl := Lib.hid hr.1
  have hn : n ≤ 12 := by have := hd.2; have := hr.1; omega
  have HP := Lib.hid (fun (d : Int) (W : World) (h0 : 0 ≤ d) (h1 : d ≤ 10000000) => i_paid x d W h h0 h1)
  have HH := Lib.hid h
  have HD := Lib.hid hd
  clear h hd
  have hR := range_new w #[.string x.fId, .int .i64 x.fPremium, .int .i64 x.fShare, .int .i64 x.fExcess, .int .i64 x.fMost] 35
  have hb0 : Below w.heap.size w (w.alloc (.cells #[.string x.fId, .int .i64 x.fPremium, .int .i64 x.fShare, .int .i64 x.fExcess, .int .i64 x.fMost] 35)) := (Below.refl _ _).alloc (Nat.le_refl _) _
  obtain ⟨W0, hW0⟩ : ∃ W0, w.alloc (.cells #[.string x.fId, .int .i64 x.fPremium, .int .i64 x.fShare, .int .i64 x.fExcess, .int .i64 x.fMost] 35) = W0 := ⟨_, rfl⟩
  rw [hW0] at hR hb0
  have hx0 := hR 0 _ rfl
  have hx1 := hR 1 _ rfl
  have hx2 := hR 2 _ rfl
  have hx3 := hR 3 _ rfl
  have hx4 := hR 4 _ rfl
  simp only [Nat.zero_add] at hx0 hx1 hx2 hx3 hx4
  have HR0 := Lib.hid (hr.below hb0)
  have HB0 := Lib.hid hb0
  clear hR hr
  go_enter Tryz.func23, Tryz.ntmps23
  go_wp2_with fail
  try rw [hW0]
  clear hW0
  go_loopw [5, 12] (fun v i wr => ∃ k : Nat, k ≤ n ∧ i = .int .i64 k ∧ v = .int .i64 (x.fPremium + lossP x (ds.take k)) ∧ Below W0.heap.size W0 wr) (fun _ i _ => n - (intOf i).toNat)
  case atStart => exact ⟨0, Nat.zero_le _, rfl, by simp [lossP], Below.refl _ _⟩
  case round =>
    obtain ⟨k, hk, rfl, rfl, hb⟩ := hrel
    by_cases hlt : k < n
    · obtain ⟨b, off, d, rfl, hx, hc⟩ := HR0.out.get hlt
      have hc0 := range_below (B := 0) hc hb 0 (.int .i64 d) rfl
      simp only [intE, Nat.mul_one, Nat.add_zero] at hc0
      have hdr := HD.out.1 d (mem_of_get hx)
      have hpd := HH.out.paid d hdr.1
      have hm1 := HH.out.m1
      have hlr := HH.out.loss (ds := ds.take k) fun y hy => HD.out.1 y (List.mem_of_mem_take hy)
      rw [List.length_take] at hlr
      have hmin : min k ds.length ≤ 12 := by have := Hl.out; omega
      have HS := Lib.hid (lossP_take (x := x) hx)
      have hP : Hid (∀ W, Calls Tryz.prog 28 #[.agg #[.string x.fId, .int .i64 x.fPremium, .int .i64 x.fShare, .int .i64 x.fExcess, .int .i64 x.fMost], .int .i64 d] W fun e w' => e = .returned (.int .i64 (paidP x d)) ∧ Below W.heap.size W w') := Lib.hid fun W => HP.out d W hdr.1 hdr.2
      obtain ⟨p, hpp⟩ : ∃ p, paidP x d = p := ⟨_, rfl⟩
      obtain ⟨s, hss⟩ : ∃ s, lossP x (ds.take k) = s := ⟨_, rfl⟩
      rw [hpp] at hP hpd HS
      rw [hss] at hlr HS ⊢
      have hs1 : 0 ≤ s ∧ s ≤ 120000000 := by omega
      clear hc hx hpp hss hlr hmin
      replace hx0 := cell_later hb hx0
      replace hx1 := cell_later hb hx1
      replace hx2 := cell_later hb hx2
      replace hx3 := cell_later hb hx3
      replace hx4 := cell_later hb hx4
      go_wp2_with fail
      refine (hP.out _).mono ?_
      rintro e w2 ⟨rfl, hb2⟩
      have hbE := hb.trans (hb2.mono hb.size)
      go_wp2
      first | (refine ⟨⟨k + 1, by omega, by go_num, by rw [HS.out]; go_num, hbE⟩, ?_⟩; (simp [intOf]; omega)) | (go_roundw; (case rel => first | exact ⟨k + 1, by omega, by go_num, by rw [HS.out]; go_num, hbE⟩ | ((try refine ⟨trivial, ?_⟩); (repeat apply Exists.intro); exact ⟨⟨k + 1, by omega, by go_num, by rw [HS.out]; go_num, hbE⟩, rfl⟩)); (case measure => (simp [intOf]; omega)))
    · obtain rfl : k = n := by omega
      have E : Hid (lossP x (ds.take k) = lossP x ds) := Lib.hid (by rw [List.take_of_length_le (by have := Hl.out; omega)])
      rw [E.out]
      go_wp2
      go_ret
      exact ⟨rfl, HB0.out.trans (hb.mono HB0.out.size)⟩
set_option maxRecDepth 100000 in
set_option maxHeartbeats 2000000 in
theorem i_areDamages (A : Option Addr) (n c : Nat) (ds : List Int) (w : World) (hr : Rd intE w A n ds) (hd : Dams ds) :
    Calls Tryz.prog 22 #[.slice A n c] w (RetB true w) := by
  have Hl := Lib.hid hr.1
  have hn : n ≤ 12 := by have := hd.2; have := hr.1; omega
  have HD := Lib.hid hd; clear hd
  go_enter Tryz.func22, Tryz.ntmps22
  go_wp2_with fail
  go_loopw [7] (fun i wr => ∃ k : Nat, k ≤ n ∧ i = .int .i64 k ∧ Below w.heap.size w wr) (fun i _ => n - (intOf i).toNat)
  case atStart => exact ⟨0, Nat.zero_le _, rfl, Below.refl _ _⟩
  case round =>
    obtain ⟨k, hk, rfl, hb⟩ := hrel
    by_cases hlt : k < n
    · obtain ⟨b, off, d, rfl, hx, hc⟩ := hr.get hlt
      have hc0 := range_below (B := 0) hc hb 0 (.int .i64 d) rfl
      simp only [intE, Nat.mul_one, Nat.add_zero] at hc0
      have hdr := HD.out.1 d (mem_of_get hx)
      have hM := fun W => i_isMoney d W
      rw [inB_true hdr.1 hdr.2] at hM
      clear hc hx
      go_wp2_with fail
      refine (hM _).mono ?_
      rintro e w1 ⟨rfl, rfl⟩
      clear hM
      go_wp2
      first | (refine ⟨⟨k + 1, by omega, by go_num, hb⟩, ?_⟩; (simp [intOf]; omega)) | (go_roundw; (case rel => first | exact ⟨k + 1, by omega, by go_num, hb⟩ | ((try refine ⟨trivial, ?_⟩); (repeat apply Exists.intro); exact ⟨⟨k + 1, by omega, by go_num, hb⟩, rfl⟩)); (case measure => (simp [intOf]; omega)))
    · have hf : decide ((n : Int) ≤ 12) = true := decide_eq_true (by omega)
      go_wp2_with fail
      refine (i_few _ _ _ (by omega) (by omega)).mono ?_
      rintro e w' ⟨rfl, rfl⟩
      go_wp2
      go_ret
      exact ⟨ret_bool (by first | exact hf | (simp; done) | (simp; omega)), hb⟩
set_option maxRecDepth 100000 in
set_option maxHeartbeats 2000000 in
theorem i_PaidFor (x : DPolicy) (d : Int) (w : World) (hok : okPolicy x = true) (hs : x.fId.size ≤ maxLen) (h0 : 0 ≤ d) (h1 : d ≤ 10000000) :
    Calls Tryz.prog 12 #[.agg #[.string x.fId, .int .i64 x.fPremium, .int .i64 x.fShare, .int .i64 x.fExcess, .int .i64 x.fMost], .int .i64 d] w fun e w' => e = .returned (.tuple #[.int .i64 (paidP x d), .int .i64 0]) ∧ Below w.heap.size w w' := by
  have hV := fun W => i_validPolicy x W hs
  rw [hok] at hV
  have hM := fun W => i_isMoney d W
  rw [inB_true h0 h1] at hM
  have hC := fun W => i_paid x d W (PB.of hok) h0 h1
  obtain ⟨p, hpp⟩ : ∃ p, paidP x d = p := ⟨_, rfl⟩
  rw [hpp] at hC ⊢
  clear hpp
  have hR := range_new w #[.string x.fId, .int .i64 x.fPremium, .int .i64 x.fShare, .int .i64 x.fExcess, .int .i64 x.fMost] 35
  have hb0 : Below w.heap.size w (w.alloc (.cells #[.string x.fId, .int .i64 x.fPremium, .int .i64 x.fShare, .int .i64 x.fExcess, .int .i64 x.fMost] 35)) := (Below.refl _ _).alloc (Nat.le_refl _) _
  obtain ⟨W0, hW0⟩ : ∃ W0, w.alloc (.cells #[.string x.fId, .int .i64 x.fPremium, .int .i64 x.fShare, .int .i64 x.fExcess, .int .i64 x.fMost] 35) = W0 := ⟨_, rfl⟩
  rw [hW0] at hR hb0
  have hx0 := hR 0 _ rfl
  have hx1 := hR 1 _ rfl
  have hx2 := hR 2 _ rfl
  have hx3 := hR 3 _ rfl
  have hx4 := hR 4 _ rfl
  simp only [Nat.zero_add] at hx0 hx1 hx2 hx3 hx4
  clear hR
  go_enter Tryz.func12, Tryz.ntmps12
  go_wp2_with fail
  try rw [hW0]
  clear hW0
  refine (hV _).mono ?_
  rintro e w1 ⟨rfl, hb1⟩
  replace hx0 := cell_later hb1 hx0
  replace hx1 := cell_later hb1 hx1
  replace hx2 := cell_later hb1 hx2
  replace hx3 := cell_later hb1 hx3
  replace hx4 := cell_later hb1 hx4
  replace hb0 := hb0.trans (hb1.mono hb0.size)
  clear hV hb1
  go_wp2_with fail
  refine (hM _).mono ?_
  rintro e w2 ⟨rfl, rfl⟩
  clear hM
  go_wp2_with fail
  refine (hC _).mono ?_
  rintro e w2 ⟨rfl, hb2⟩
  clear hC
  go_wp2
  go_ret2
  exact ⟨rfl, hb0.trans (hb2.mono hb0.size)⟩
set_option maxRecDepth 100000 in
set_option maxHeartbeats 2000000 in
theorem i_YearCost (x : DPolicy) (A : Option Addr) (n c : Nat) (ds : List Int) (w : World) (hok : okPolicy x = true) (hs : x.fId.size ≤ maxLen) (hr : Rd intE w A n ds) (hd : Dams ds) :
    Calls Tryz.prog 11 #[.agg #[.string x.fId, .int .i64 x.fPremium, .int .i64 x.fShare, .int .i64 x.fExcess, .int .i64 x.fMost], .slice A n c] w fun e w' => e = .returned (.tuple #[.int .i64 (costP x ds), .int .i64 0]) ∧ Below w.heap.size w w' := by
  have hV := fun W => i_validPolicy x W hs
  rw [hok] at hV
  have hM := fun W (hb : Below w.heap.size w W) => i_areDamages A n c ds W (hr.below hb) hd
  have hC := fun W (hb : Below w.heap.size w W) => i_costP x A n c ds W (PB.of hok) (hr.below hb) hd
  obtain ⟨p, hpp⟩ : ∃ p, costP x ds = p := ⟨_, rfl⟩
  rw [hpp] at hC ⊢
  clear hpp
  have hR := range_new w #[.string x.fId, .int .i64 x.fPremium, .int .i64 x.fShare, .int .i64 x.fExcess, .int .i64 x.fMost] 35
  have hb0 : Below w.heap.size w (w.alloc (.cells #[.string x.fId, .int .i64 x.fPremium, .int .i64 x.fShare, .int .i64 x.fExcess, .int .i64 x.fMost] 35)) := (Below.refl _ _).alloc (Nat.le_refl _) _
  obtain ⟨W0, hW0⟩ : ∃ W0, w.alloc (.cells #[.string x.fId, .int .i64 x.fPremium, .int .i64 x.fShare, .int .i64 x.fExcess, .int .i64 x.fMost] 35) = W0 := ⟨_, rfl⟩
  rw [hW0] at hR hb0
  have hx0 := hR 0 _ rfl
  have hx1 := hR 1 _ rfl
  have hx2 := hR 2 _ rfl
  have hx3 := hR 3 _ rfl
  have hx4 := hR 4 _ rfl
  simp only [Nat.zero_add] at hx0 hx1 hx2 hx3 hx4
  clear hR
  go_enter Tryz.func11, Tryz.ntmps11
  go_wp2_with fail
  try rw [hW0]
  clear hW0
  refine (hV _).mono ?_
  rintro e w1 ⟨rfl, hb1⟩
  replace hx0 := cell_later hb1 hx0
  replace hx1 := cell_later hb1 hx1
  replace hx2 := cell_later hb1 hx2
  replace hx3 := cell_later hb1 hx3
  replace hx4 := cell_later hb1 hx4
  replace hb0 := hb0.trans (hb1.mono hb0.size)
  clear hV hb1
  go_wp2_with fail
  refine (hM _ hb0).mono ?_
  rintro e w2 ⟨rfl, hb2⟩
  replace hx0 := cell_later hb2 hx0
  replace hx1 := cell_later hb2 hx1
  replace hx2 := cell_later hb2 hx2
  replace hx3 := cell_later hb2 hx3
  replace hx4 := cell_later hb2 hx4
  replace hb0 := hb0.trans (hb2.mono hb0.size)
  clear hM hb2
  go_wp2_with fail
  refine (hC _ hb0).mono ?_
  rintro e w2 ⟨rfl, hb2⟩
  clear hC
  go_wp2
  go_ret2
  exact ⟨rfl, hb0.trans (hb2.mono hb0.size)⟩
set_option maxRecDepth 100000 in
set_option maxHeartbeats 2000000 in
theorem i_beats (x y : DPolicy) (w : World) :
    Calls Tryz.prog 24 #[.agg #[.string x.fId, .int .i64 x.fPremium, .int .i64 x.fShare, .int .i64 x.fExcess, .int .i64 x.fMost], .agg #[.string y.fId, .int .i64 y.fPremium, .int .i64 y.fShare, .int .i64 y.fExcess, .int .i64 y.fMost]] w (RetB (beatsB x y) w) := by
  have hb0 : Below w.heap.size w ((w.alloc (.cells #[.string x.fId, .int .i64 x.fPremium, .int .i64 x.fShare, .int .i64 x.fExcess, .int .i64 x.fMost] 35)).alloc (.cells #[.string y.fId, .int .i64 y.fPremium, .int .i64 y.fShare, .int .i64 y.fExcess, .int .i64 y.fMost] 35)) := ((Below.refl _ _).alloc (Nat.le_refl _) _).alloc (by simp) _
  rcases d0 : (x.fPremium != y.fPremium) with _ | _
  · skip
    rcases d1 : (x.fShare != y.fShare) with _ | _
    · skip
      rcases d2 : (x.fExcess != y.fExcess) with _ | _
      · skip
        rcases d3 : (x.fMost != y.fMost) with _ | _
        · skip
          have E : Hid (beatsB x y = false) := Lib.hid (by unfold beatsB; rw [d0, d1, d2, d3]; rfl)
          rw [E.out]
          go_enter Tryz.func24, Tryz.ntmps24
          go_wp2
          go_ret
          exact ⟨rfl, hb0⟩
        · skip
          by_cases l0 : x.fPremium ≤ y.fPremium
          · skip
            by_cases l1 : x.fExcess ≤ y.fExcess
            · skip
              by_cases l2 : y.fShare ≤ x.fShare
              · skip
                by_cases l3 : y.fMost ≤ x.fMost
                · skip
                  have E : Hid (beatsB x y = true) := Lib.hid (by unfold beatsB; rw [d0, d1, d2, d3, decide_eq_true l0, decide_eq_true l1, decide_eq_true l2, decide_eq_true l3]; rfl)
                  rw [E.out]
                  go_enter Tryz.func24, Tryz.ntmps24
                  go_wp2
                  go_ret
                  exact ⟨rfl, hb0⟩
                · skip
                  have E : Hid (beatsB x y = false) := Lib.hid (by unfold beatsB; rw [d0, d1, d2, d3, decide_eq_true l0, decide_eq_true l1, decide_eq_true l2, decide_eq_false l3]; rfl)
                  rw [E.out]
                  go_enter Tryz.func24, Tryz.ntmps24
                  go_wp2
                  go_ret
                  exact ⟨rfl, hb0⟩
              · skip
                have E : Hid (beatsB x y = false) := Lib.hid (by unfold beatsB; rw [d0, d1, d2, d3, decide_eq_true l0, decide_eq_true l1, decide_eq_false l2]; rfl)
                rw [E.out]
                go_enter Tryz.func24, Tryz.ntmps24
                go_wp2
                go_ret
                exact ⟨rfl, hb0⟩
            · skip
              have E : Hid (beatsB x y = false) := Lib.hid (by unfold beatsB; rw [d0, d1, d2, d3, decide_eq_true l0, decide_eq_false l1]; rfl)
              rw [E.out]
              go_enter Tryz.func24, Tryz.ntmps24
              go_wp2
              go_ret
              exact ⟨rfl, hb0⟩
          · skip
            have E : Hid (beatsB x y = false) := Lib.hid (by unfold beatsB; rw [d0, d1, d2, d3, decide_eq_false l0]; rfl)
            rw [E.out]
            go_enter Tryz.func24, Tryz.ntmps24
            go_wp2
            go_ret
            exact ⟨rfl, hb0⟩
      · skip
        by_cases l0 : x.fPremium ≤ y.fPremium
        · skip
          by_cases l1 : x.fExcess ≤ y.fExcess
          · skip
            by_cases l2 : y.fShare ≤ x.fShare
            · skip
              by_cases l3 : y.fMost ≤ x.fMost
              · skip
                have E : Hid (beatsB x y = true) := Lib.hid (by unfold beatsB; rw [d0, d1, d2, decide_eq_true l0, decide_eq_true l1, decide_eq_true l2, decide_eq_true l3]; rfl)
                rw [E.out]
                go_enter Tryz.func24, Tryz.ntmps24
                go_wp2
                go_ret
                exact ⟨rfl, hb0⟩
              · skip
                have E : Hid (beatsB x y = false) := Lib.hid (by unfold beatsB; rw [d0, d1, d2, decide_eq_true l0, decide_eq_true l1, decide_eq_true l2, decide_eq_false l3]; rfl)
                rw [E.out]
                go_enter Tryz.func24, Tryz.ntmps24
                go_wp2
                go_ret
                exact ⟨rfl, hb0⟩
            · skip
              have E : Hid (beatsB x y = false) := Lib.hid (by unfold beatsB; rw [d0, d1, d2, decide_eq_true l0, decide_eq_true l1, decide_eq_false l2]; rfl)
              rw [E.out]
              go_enter Tryz.func24, Tryz.ntmps24
              go_wp2
              go_ret
              exact ⟨rfl, hb0⟩
          · skip
            have E : Hid (beatsB x y = false) := Lib.hid (by unfold beatsB; rw [d0, d1, d2, decide_eq_true l0, decide_eq_false l1]; rfl)
            rw [E.out]
            go_enter Tryz.func24, Tryz.ntmps24
            go_wp2
            go_ret
            exact ⟨rfl, hb0⟩
        · skip
          have E : Hid (beatsB x y = false) := Lib.hid (by unfold beatsB; rw [d0, d1, d2, decide_eq_false l0]; rfl)
          rw [E.out]
          go_enter Tryz.func24, Tryz.ntmps24
          go_wp2
          go_ret
          exact ⟨rfl, hb0⟩
    · skip
      by_cases l0 : x.fPremium ≤ y.fPremium
      · skip
        by_cases l1 : x.fExcess ≤ y.fExcess
        · skip
          by_cases l2 : y.fShare ≤ x.fShare
          · skip
            by_cases l3 : y.fMost ≤ x.fMost
            · skip
              have E : Hid (beatsB x y = true) := Lib.hid (by unfold beatsB; rw [d0, d1, decide_eq_true l0, decide_eq_true l1, decide_eq_true l2, decide_eq_true l3]; rfl)
              rw [E.out]
              go_enter Tryz.func24, Tryz.ntmps24
              go_wp2
              go_ret
              exact ⟨rfl, hb0⟩
            · skip
              have E : Hid (beatsB x y = false) := Lib.hid (by unfold beatsB; rw [d0, d1, decide_eq_true l0, decide_eq_true l1, decide_eq_true l2, decide_eq_false l3]; rfl)
              rw [E.out]
              go_enter Tryz.func24, Tryz.ntmps24
              go_wp2
              go_ret
              exact ⟨rfl, hb0⟩
          · skip
            have E : Hid (beatsB x y = false) := Lib.hid (by unfold beatsB; rw [d0, d1, decide_eq_true l0, decide_eq_true l1, decide_eq_false l2]; rfl)
            rw [E.out]
            go_enter Tryz.func24, Tryz.ntmps24
            go_wp2
            go_ret
            exact ⟨rfl, hb0⟩
        · skip
          have E : Hid (beatsB x y = false) := Lib.hid (by unfold beatsB; rw [d0, d1, decide_eq_true l0, decide_eq_false l1]; rfl)
          rw [E.out]
          go_enter Tryz.func24, Tryz.ntmps24
          go_wp2
          go_ret
          exact ⟨rfl, hb0⟩
      · skip
        have E : Hid (beatsB x y = false) := Lib.hid (by unfold beatsB; rw [d0, d1, decide_eq_false l0]; rfl)
        rw [E.out]
        go_enter Tryz.func24, Tryz.ntmps24
        go_wp2
        go_ret
        exact ⟨rfl, hb0⟩
  · skip
    by_cases l0 : x.fPremium ≤ y.fPremium
    · skip
      by_cases l1 : x.fExcess ≤ y.fExcess
      · skip
        by_cases l2 : y.fShare ≤ x.fShare
        · skip
          by_cases l3 : y.fMost ≤ x.fMost
          · skip
            have E : Hid (beatsB x y = true) := Lib.hid (by unfold beatsB; rw [d0, decide_eq_true l0, decide_eq_true l1, decide_eq_true l2, decide_eq_true l3]; rfl)
            rw [E.out]
            go_enter Tryz.func24, Tryz.ntmps24
            go_wp2
            go_ret
            exact ⟨rfl, hb0⟩
          · skip
            have E : Hid (beatsB x y = false) := Lib.hid (by unfold beatsB; rw [d0, decide_eq_true l0, decide_eq_true l1, decide_eq_true l2, decide_eq_false l3]; rfl)
            rw [E.out]
            go_enter Tryz.func24, Tryz.ntmps24
            go_wp2
            go_ret
            exact ⟨rfl, hb0⟩
        · skip
          have E : Hid (beatsB x y = false) := Lib.hid (by unfold beatsB; rw [d0, decide_eq_true l0, decide_eq_true l1, decide_eq_false l2]; rfl)
          rw [E.out]
          go_enter Tryz.func24, Tryz.ntmps24
          go_wp2
          go_ret
          exact ⟨rfl, hb0⟩
      · skip
        have E : Hid (beatsB x y = false) := Lib.hid (by unfold beatsB; rw [d0, decide_eq_true l0, decide_eq_false l1]; rfl)
        rw [E.out]
        go_enter Tryz.func24, Tryz.ntmps24
        go_wp2
        go_ret
        exact ⟨rfl, hb0⟩
    · skip
      have E : Hid (beatsB x y = false) := Lib.hid (by unfold beatsB; rw [d0, decide_eq_false l0]; rfl)
      rw [E.out]
      go_enter Tryz.func24, Tryz.ntmps24
      go_wp2
      go_ret
      exact ⟨rfl, hb0⟩
end Go.Proofs.YtflhpjfnpioldaaGreatDoor
