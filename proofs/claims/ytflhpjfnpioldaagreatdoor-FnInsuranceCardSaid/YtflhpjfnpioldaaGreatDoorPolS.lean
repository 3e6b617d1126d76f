/- Policies: the reference's small functions. Printed by a program of mine. -/
import Derived.Test.YtflhpjfnpioldaaGreatDoorRows
import Derived.Test.YtflhpjfnpioldaaGreatDoorPolI
import Derived.Test.YtflhpjfnpioldaaGreatDoorSrc
namespace Go.Proofs.YtflhpjfnpioldaaGreatDoor
set_option linter.unusedVariables false
set_option linter.unusedSimpArgs false
set_option linter.unusedSectionVars false
open Go.RowKit

theorem s_l00Min (a b : Int) (w : World) : Calls Tryz.prog 47 #[.int .i64 a, .int .i64 b] w fun e w' => e = .returned (.int .i64 (min a b)) ∧ w = w' := by
  by_cases h : a < b
  · have E : Hid (min a b = a) := Lib.hid (by omega)
    go_enter Tryz.func47, Tryz.ntmps47
    go_wp2
    go_ret
    exact ⟨ret_int E.out.symm, rfl⟩
  · have E : Hid (min a b = b) := Lib.hid (by omega)
    go_enter Tryz.func47, Tryz.ntmps47
    go_wp2
    go_ret
    exact ⟨ret_int E.out.symm, rfl⟩
theorem s_l00Max (a b : Int) (w : World) : Calls Tryz.prog 48 #[.int .i64 a, .int .i64 b] w fun e w' => e = .returned (.int .i64 (max a b)) ∧ w = w' := by
  by_cases h : b < a
  · have E : Hid (max a b = a) := Lib.hid (by omega)
    go_enter Tryz.func48, Tryz.ntmps48
    go_wp2
    go_ret
    exact ⟨ret_int E.out.symm, rfl⟩
  · have E : Hid (max a b = b) := Lib.hid (by omega)
    go_enter Tryz.func48, Tryz.ntmps48
    go_wp2
    go_ret
    exact ⟨ret_int E.out.symm, rfl⟩
set_option maxRecDepth 100000 in
set_option maxHeartbeats 2000000 in
theorem s_l23Paid (b off : Nat) (x : DPolicy) (d : Int) (w : World) (hc : w.rangeAt b off (policyE.cells x)) (h : PB x) (h0 : 0 ≤ d) (h1 : d ≤ 10000000) :
    Calls Tryz.prog 33 #[.pointer (some ⟨b, off, none⟩), .int .i64 d] w fun e w' => e = .returned (.int .i64 (paidP x d)) ∧ Below w.heap.size w w' := by
  have s0 := h.s0; have s1 := h.s1; have e0 := h.e0; have e1 := h.e1; have m0 := h.m0; have m1 := h.m1
  have hp := h.prod (t := max 0 (d - x.fExcess)) (by omega)
  have ht : 0 ≤ max 0 (d - x.fExcess) ∧ max 0 (d - x.fExcess) ≤ 10000000 := by omega
  have hx2 := hc 2 _ rfl
  have hx3 := hc 3 _ rfl
  have hx4 := hc 4 _ rfl
  have E : Hid (paidP x d = min x.fMost (max 0 (d - x.fExcess) * x.fShare / 1000)) := Lib.hid (by unfold paidP; rw [Int.mul_comm])
  rw [Int.mul_comm] at hp
  have hA := fun W => s_l00Max 0 (d - x.fExcess) W
  obtain ⟨t, htt⟩ : ∃ t, max 0 (d - x.fExcess) = t := ⟨_, rfl⟩
  rw [htt] at hp ht E hA
  obtain ⟨q, hq⟩ : ∃ q, t * x.fShare / 1000 = q := ⟨_, rfl⟩
  rw [hq] at E
  have hB := fun W => s_l00Min x.fMost q W
  have w1 : IntKind.i64.wrap (d - x.fExcess) = d - x.fExcess := wid (by omega)
  have w2 : IntKind.i64.wrap (t * x.fShare) = t * x.fShare := wid (by omega)
  have w3 : IntKind.i64.wrap ((t * x.fShare).tdiv 1000) = q := by rw [Int.tdiv_eq_ediv_of_nonneg (by omega), hq, wid (by omega)]
  clear htt hc hq hp ht s0 s1 e0 e1 m0 m1 h0 h1 h
  go_enter Tryz.func33, Tryz.ntmps33
  go_wp2_with fail
  go_quiet (first | (go_at_call 48; with_reducible exact quiet_left (hA _)) | (go_at_call 47; with_reducible exact quiet_left (hB _)))
  go_wp2
  go_ret
  exact ⟨ret_int E.out.symm, below_drewN (Below.refl _ _) _⟩
set_option maxRecDepth 100000 in
set_option maxHeartbeats 2000000 in
theorem s_PaidFor_yes (x : DPolicy) (d : Int) (w : World) (hok : okPolicy x = true) (hs : x.fId.size ≤ maxLen) (h0 : 0 ≤ d) (h1 : d ≤ 10000000) :
    Calls Tryz.prog 16 #[.agg #[.string x.fId, .int .i64 x.fPremium, .int .i64 x.fShare, .int .i64 x.fExcess, .int .i64 x.fMost], .int .i64 d] w fun e w' => e = .returned (.tuple #[.int .i64 (paidP x d), .int .i64 0]) ∧ Below w.heap.size w w' := by
  have hM := fun W => s_l21Money d W
  rw [inB_true h0 h1] at hM
  have hQ := PB.of hok
  have hR := range_new w #[.string x.fId, .int .i64 x.fPremium, .int .i64 x.fShare, .int .i64 x.fExcess, .int .i64 x.fMost] 35
  have hb0 : Below w.heap.size w (w.alloc (.cells #[.string x.fId, .int .i64 x.fPremium, .int .i64 x.fShare, .int .i64 x.fExcess, .int .i64 x.fMost] 35)) := (Below.refl _ _).alloc (Nat.le_refl _) _
  obtain ⟨W0, hW0⟩ : ∃ W0, w.alloc (.cells #[.string x.fId, .int .i64 x.fPremium, .int .i64 x.fShare, .int .i64 x.fExcess, .int .i64 x.fMost] 35) = W0 := ⟨_, rfl⟩
  rw [hW0] at hR hb0
  have HR := Lib.hid (show W0.rangeAt w.heap.size 0 (policyE.cells x) from hR)
  clear hR
  go_enter Tryz.func16, Tryz.ntmps16
  go_wp2_with fail
  try rw [hW0]
  clear hW0
  refine (s_l23One _ 0 x W0 hs HR.out).mono ?_
  rintro e w' ⟨rfl, rfl⟩
  rw [hok]
  go_wp2_with fail
  refine (hM _).mono ?_
  rintro e w' ⟨rfl, rfl⟩
  clear hM
  go_wp2_with fail
  refine (s_l23Paid _ 0 x d _ HR.out hQ h0 h1).mono ?_
  rintro e w2 ⟨rfl, hb2⟩
  go_wp2
  go_ret2
  exact ⟨rfl, hb0.trans (hb2.mono hb0.size)⟩
set_option maxRecDepth 100000 in
set_option maxHeartbeats 2000000 in
theorem s_PaidFor_no (x : DPolicy) (d : Int) (w : World) (hok : okPolicy x = true) (hs : x.fId.size ≤ maxLen) (hd : inB d 0 10000000 = false) :
    Calls Tryz.prog 16 #[.agg #[.string x.fId, .int .i64 x.fPremium, .int .i64 x.fShare, .int .i64 x.fExcess, .int .i64 x.fMost], .int .i64 d] w fun e w' => e = .returned (.tuple #[.int .i64 0, .int .i64 2]) ∧ Below w.heap.size w w' := by
  have hM := fun W => s_l21Money d W
  rw [hd] at hM
  have hR := range_new w #[.string x.fId, .int .i64 x.fPremium, .int .i64 x.fShare, .int .i64 x.fExcess, .int .i64 x.fMost] 35
  have hb0 : Below w.heap.size w (w.alloc (.cells #[.string x.fId, .int .i64 x.fPremium, .int .i64 x.fShare, .int .i64 x.fExcess, .int .i64 x.fMost] 35)) := (Below.refl _ _).alloc (Nat.le_refl _) _
  obtain ⟨W0, hW0⟩ : ∃ W0, w.alloc (.cells #[.string x.fId, .int .i64 x.fPremium, .int .i64 x.fShare, .int .i64 x.fExcess, .int .i64 x.fMost] 35) = W0 := ⟨_, rfl⟩
  rw [hW0] at hR hb0
  have HR := Lib.hid (show W0.rangeAt w.heap.size 0 (policyE.cells x) from hR)
  clear hR
  go_enter Tryz.func16, Tryz.ntmps16
  go_wp2_with fail
  try rw [hW0]
  clear hW0
  refine (s_l23One _ 0 x W0 hs HR.out).mono ?_
  rintro e w' ⟨rfl, rfl⟩
  rw [hok]
  go_wp2_with fail
  refine (hM _).mono ?_
  rintro e w' ⟨rfl, rfl⟩
  clear hM
  go_wp2
  go_ret2
  exact ⟨rfl, hb0⟩
set_option maxRecDepth 100000 in
set_option maxHeartbeats 2000000 in
theorem s_l23Damages (A : Option Addr) (n c : Nat) (ds : List Int) (w : World) (hr : Rd intE w A n ds) (hd : Dams ds) :
    Calls Tryz.prog 34 #[.slice A n c] w (RetB true w) := by
  have Hl := Lib.hid hr.1
  have hn : n ≤ 12 := by have := hd.2; have := hr.1; omega
  have HD := Lib.hid hd; clear hd
  go_enter Tryz.func34, Tryz.ntmps34
  go_wp2_with fail
  go_loopw [3] (fun i wr => ∃ k : Nat, k ≤ n ∧ i = .int .i64 k ∧ Below w.heap.size w wr) (fun i _ => n - (intOf i).toNat)
  case atStart => exact ⟨0, Nat.zero_le _, rfl, Below.refl _ _⟩
  case round =>
    obtain ⟨k, hk, rfl, hb⟩ := hrel
    by_cases hlt : k < n
    · obtain ⟨b, off, d, rfl, hx, hc⟩ := hr.get hlt
      have hc0 := range_below (B := 0) hc hb 0 (.int .i64 d) rfl
      simp only [intE, Nat.mul_one, Nat.add_zero] at hc0
      have hdr := HD.out.1 d (mem_of_get hx)
      have hM := fun W => s_l21Money d W
      rw [inB_true hdr.1 hdr.2] at hM
      clear hc hx
      go_wp2_with fail
      refine (hM _).mono ?_
      rintro e w1 ⟨rfl, rfl⟩
      clear hM
      go_wp2
      first | (refine ⟨⟨k + 1, by omega, by go_num, hb⟩, ?_⟩; (simp [intOf]; omega)) | (go_roundw; (case rel => first | exact ⟨k + 1, by omega, by go_num, hb⟩ | ((try refine ⟨trivial, ?_⟩); (repeat apply Exists.intro); exact ⟨⟨k + 1, by omega, by go_num, hb⟩, rfl⟩)); (case measure => (simp [intOf]; omega)))
    · have hf : decide ((n : Int) ≤ 12) = true := decide_eq_true (by omega)
      go_wp2
      go_ret
      exact ⟨ret_bool (by first | exact hf | (simp; done) | (simp; omega)), hb⟩
set_option maxRecDepth 100000 in
set_option maxHeartbeats 2000000 in
theorem s_l23Cost (b0 o0 : Nat) (x : DPolicy) (A : Option Addr) (n c : Nat) (ds : List Int) (w : World) (hc : w.rangeAt b0 o0 (policyE.cells x)) (h : PB x) (hr : Rd intE w A n ds) (hd : Dams ds) :
    Calls Tryz.prog 35 #[.pointer (some ⟨b0, o0, none⟩), .slice A n c] w fun e w' => e = .returned (.int .i64 (costP x ds)) ∧ Below w.heap.size w w' := by
  have p0 := h.p0; have p1 := h.p1
  have Hl := Lib.hid hr.1
  have hn : n ≤ 12 := by have := hd.2; have := hr.1; omega
  have HP := Lib.hid (fun (d : Int) (W : World) (hb : Below w.heap.size w W) (h0 : 0 ≤ d) (h1 : d ≤ 10000000) => s_l23Paid b0 o0 x d W (range_below (B := 0) hc hb) h h0 h1)
  have HH := Lib.hid h
  have HD := Lib.hid hd
  have HR := Lib.hid hr
  have hx1 := hc 1 _ rfl
  clear h hd hr hc
  go_enter Tryz.func35, Tryz.ntmps35
  go_wp2_with fail
  go_loopw [5, 6] (fun v i wr => ∃ k : Nat, k ≤ n ∧ i = .int .i64 k ∧ v = .int .i64 (x.fPremium + lossP x (ds.take k)) ∧ Below w.heap.size w wr) (fun _ i _ => n - (intOf i).toNat)
  case atStart => exact ⟨0, Nat.zero_le _, rfl, by simp [lossP], Below.refl _ _⟩
  case round =>
    obtain ⟨k, hk, rfl, rfl, hb⟩ := hrel
    by_cases hlt : k < n
    · obtain ⟨b, off, d, rfl, hx, hc⟩ := HR.out.get hlt
      have hc0 := range_below (B := 0) hc hb 0 (.int .i64 d) rfl
      simp only [intE, Nat.mul_one, Nat.add_zero] at hc0
      have hdr := HD.out.1 d (mem_of_get hx)
      have hpd := HH.out.paid d hdr.1
      have hm1 := HH.out.m1
      have hlr := HH.out.loss (ds := ds.take k) fun y hy => HD.out.1 y (List.mem_of_mem_take hy)
      rw [List.length_take] at hlr
      have hmin : min k ds.length ≤ 12 := by have := Hl.out; omega
      have HS := Lib.hid (lossP_take (x := x) hx)
      have hP : Hid (∀ W, Below w.heap.size w W → Calls Tryz.prog 33 #[.pointer (some ⟨b0, o0, none⟩), .int .i64 d] W fun e w' => e = .returned (.int .i64 (paidP x d)) ∧ Below W.heap.size W w') := Lib.hid fun W hb => HP.out d W hb hdr.1 hdr.2
      obtain ⟨p, hpp⟩ : ∃ p, paidP x d = p := ⟨_, rfl⟩
      obtain ⟨s, hss⟩ : ∃ s, lossP x (ds.take k) = s := ⟨_, rfl⟩
      rw [hpp] at hP hpd HS
      rw [hss] at hlr HS ⊢
      have hs1 : 0 ≤ s ∧ s ≤ 120000000 := by omega
      have q1 : IntKind.i64.wrap (d - p) = d - p := wid (by omega)
      have q2 : IntKind.i64.wrap (x.fPremium + s + (d - p)) = x.fPremium + s + (d - p) := wid (by omega)
      clear hc hx hpp hss hlr hmin
      go_wp2_with fail
      go_region_held3 (fun w' => w'.cell? ⟨b, off + k, none⟩ = some (.int .i64 d) ∧ Below w.heap.size w w')
        (first | exact ⟨hc0, hb.drew⟩
               | (go_split_ands; exact ⟨cell_later hb2 (by assumption), Below.trans (by assumption) (hb2.mono (Below.size (by assumption)))⟩))
        (first | (go_at_call 33; go_split_ands; refine (hP.out _ (by assumption)).mono ?_; rintro e w2 ⟨rfl, hb2⟩))
      rename_i hh
      obtain ⟨_, hbE⟩ := hh
      go_wp2
      first | (refine ⟨⟨k + 1, by omega, by go_num, by rw [HS.out]; go_num, hbE⟩, ?_⟩; (simp [intOf]; omega)) | (go_roundw; (case rel => first | exact ⟨k + 1, by omega, by go_num, by rw [HS.out]; go_num, hbE⟩ | ((try refine ⟨trivial, ?_⟩); (repeat apply Exists.intro); exact ⟨⟨k + 1, by omega, by go_num, by rw [HS.out]; go_num, hbE⟩, rfl⟩)); (case measure => (simp [intOf]; omega)))
    · obtain rfl : k = n := by omega
      have E : Hid (lossP x (ds.take k) = lossP x ds) := Lib.hid (by rw [List.take_of_length_le (by have := Hl.out; omega)])
      rw [E.out]
      go_wp2
      go_ret
      exact ⟨rfl, hb⟩
set_option maxRecDepth 100000 in
set_option maxHeartbeats 2000000 in
theorem s_YearCost (x : DPolicy) (A : Option Addr) (n c : Nat) (ds : List Int) (w : World) (hok : okPolicy x = true) (hs : x.fId.size ≤ maxLen) (hr : Rd intE w A n ds) (hd : Dams ds) :
    Calls Tryz.prog 18 #[.agg #[.string x.fId, .int .i64 x.fPremium, .int .i64 x.fShare, .int .i64 x.fExcess, .int .i64 x.fMost], .slice A n c] w fun e w' => e = .returned (.tuple #[.int .i64 (costP x ds), .int .i64 0]) ∧ Below w.heap.size w w' := by
  have hM := fun W (hb : Below w.heap.size w W) => s_l23Damages A n c ds W (hr.below hb) hd
  have hQ := PB.of hok
  have hR := range_new w #[.string x.fId, .int .i64 x.fPremium, .int .i64 x.fShare, .int .i64 x.fExcess, .int .i64 x.fMost] 35
  have hb0 : Below w.heap.size w (w.alloc (.cells #[.string x.fId, .int .i64 x.fPremium, .int .i64 x.fShare, .int .i64 x.fExcess, .int .i64 x.fMost] 35)) := (Below.refl _ _).alloc (Nat.le_refl _) _
  obtain ⟨W0, hW0⟩ : ∃ W0, w.alloc (.cells #[.string x.fId, .int .i64 x.fPremium, .int .i64 x.fShare, .int .i64 x.fExcess, .int .i64 x.fMost] 35) = W0 := ⟨_, rfl⟩
  rw [hW0] at hR hb0
  have HR := Lib.hid (show W0.rangeAt w.heap.size 0 (policyE.cells x) from hR)
  clear hR
  go_enter Tryz.func18, Tryz.ntmps18
  go_wp2_with fail
  try rw [hW0]
  clear hW0
  refine (s_l23One _ 0 x W0 hs HR.out).mono ?_
  rintro e w' ⟨rfl, rfl⟩
  rw [hok]
  go_wp2_with fail
  refine (hM _ hb0).mono ?_
  rintro e w1 ⟨rfl, hb1⟩
  clear hM
  go_wp2_with fail
  refine (s_l23Cost _ 0 x A n c ds _ (range_below (B := 0) HR.out hb1) hQ (hr.below (hb0.trans (hb1.mono hb0.size))) hd).mono ?_
  rintro e w2 ⟨rfl, hb2⟩
  go_wp2
  go_ret2
  exact ⟨rfl, (hb0.trans (hb1.mono hb0.size)).trans (hb2.mono (hb0.trans (hb1.mono hb0.size)).size)⟩
end Go.Proofs.YtflhpjfnpioldaaGreatDoor
