/- Policies: the least cost, from where one is worth its price, who beats whom, where two cross. Printed by a program of mine. -/
import Derived.Test.YtflhpjfnpioldaaGreatDoorRows
import Derived.Test.YtflhpjfnpioldaaGreatDoorPolI
import Derived.Test.YtflhpjfnpioldaaGreatDoorTwo
namespace Go.Proofs.YtflhpjfnpioldaaGreatDoor
set_option linter.unusedVariables false
set_option linter.unusedSimpArgs false
set_option linter.unusedSectionVars false
open Go.RowKit

theorem OkPolicys.pb {l : List DPolicy} (h : OkPolicys l) : ∀ x ∈ l, PB x := fun x hx => PB.of (h.ok x hx)
set_option maxRecDepth 100000 in
set_option maxHeartbeats 4000000 in
theorem i_BeatsOther (x y : DPolicy) (w : World) (hx : okPolicy x = true) (hy : okPolicy y = true) (hsx : x.fId.size ≤ maxLen) (hsy : y.fId.size ≤ maxLen) :
    Calls Tryz.prog 17 #[.agg #[.string x.fId, .int .i64 x.fPremium, .int .i64 x.fShare, .int .i64 x.fExcess, .int .i64 x.fMost], .agg #[.string y.fId, .int .i64 y.fPremium, .int .i64 y.fShare, .int .i64 y.fExcess, .int .i64 y.fMost]] w (RetB (beatsB x y) w) := by
  have hV := fun W => i_validPolicy x W hsx
  have hU := fun W => i_validPolicy y W hsy
  have hB := fun W => i_beats x y W
  rw [hx] at hV
  rw [hy] at hU
  obtain ⟨r, hr⟩ : ∃ r, beatsB x y = r := ⟨_, rfl⟩
  rw [hr] at hB ⊢
  clear hr hx hy
  have hR := range_new w #[.string x.fId, .int .i64 x.fPremium, .int .i64 x.fShare, .int .i64 x.fExcess, .int .i64 x.fMost] 35
  obtain ⟨W0, hW0⟩ : ∃ W0, w.alloc (.cells #[.string x.fId, .int .i64 x.fPremium, .int .i64 x.fShare, .int .i64 x.fExcess, .int .i64 x.fMost] 35) = W0 := ⟨_, rfl⟩
  have hb0 : Below w.heap.size w W0 := hW0 ▸ (Below.refl _ _).alloc (Nat.le_refl _) _
  have z0 : W0.heap.size = w.heap.size + 1 := by rw [← hW0]; simp
  rw [hW0] at hR
  have hS := range_new W0 #[.string y.fId, .int .i64 y.fPremium, .int .i64 y.fShare, .int .i64 y.fExcess, .int .i64 y.fMost] 35
  obtain ⟨W1, hW1⟩ : ∃ W1, W0.alloc (.cells #[.string y.fId, .int .i64 y.fPremium, .int .i64 y.fShare, .int .i64 y.fExcess, .int .i64 y.fMost] 35) = W1 := ⟨_, rfl⟩
  have hba : Below W0.heap.size W0 W1 := hW1 ▸ (Below.refl _ _).alloc (Nat.le_refl _) _
  have z1 : W1.heap.size = w.heap.size + 2 := by rw [← hW1]; simp; omega
  replace hb0 := hb0.trans (hba.mono hb0.size)
  rw [hW1, z0] at hS
  have hR1 := range_below (B := 0) hR hba
  have hx0 := hR1 0 _ rfl
  have hx1 := hR1 1 _ rfl
  have hx2 := hR1 2 _ rfl
  have hx3 := hR1 3 _ rfl
  have hx4 := hR1 4 _ rfl
  simp only [Nat.zero_add] at hx0 hx1 hx2 hx3 hx4
  have hy0 := hS 0 _ rfl
  have hy1 := hS 1 _ rfl
  have hy2 := hS 2 _ rfl
  have hy3 := hS 3 _ rfl
  have hy4 := hS 4 _ rfl
  simp only [Nat.zero_add] at hy0 hy1 hy2 hy3 hy4
  clear hR hR1 hS hba
  go_enter Tryz.func17, Tryz.ntmps17
  go_wp2_with fail
  try rw [hW0]
  try rw [hW1]
  clear hW0 hW1 z0 z1
  refine (hV _).mono ?_
  rintro e w1 ⟨rfl, hb1⟩
  replace hx0 := cell_later hb1 hx0
  replace hx1 := cell_later hb1 hx1
  replace hx2 := cell_later hb1 hx2
  replace hx3 := cell_later hb1 hx3
  replace hx4 := cell_later hb1 hx4
  replace hy0 := cell_later hb1 hy0
  replace hy1 := cell_later hb1 hy1
  replace hy2 := cell_later hb1 hy2
  replace hy3 := cell_later hb1 hy3
  replace hy4 := cell_later hb1 hy4
  replace hb0 := hb0.trans (hb1.mono hb0.size)
  clear hV hb1
  go_wp2_with fail
  refine (hU _).mono ?_
  rintro e w2 ⟨rfl, hb1⟩
  replace hx0 := cell_later hb1 hx0
  replace hx1 := cell_later hb1 hx1
  replace hx2 := cell_later hb1 hx2
  replace hx3 := cell_later hb1 hx3
  replace hx4 := cell_later hb1 hx4
  replace hy0 := cell_later hb1 hy0
  replace hy1 := cell_later hb1 hy1
  replace hy2 := cell_later hb1 hy2
  replace hy3 := cell_later hb1 hy3
  replace hy4 := cell_later hb1 hy4
  replace hb0 := hb0.trans (hb1.mono hb0.size)
  clear hU hb1
  go_wp2_with fail
  refine (hB _).mono ?_
  rintro e w3 ⟨rfl, hb1⟩
  clear hB
  go_wp2
  go_ret
  exact ⟨rfl, hb0.trans (hb1.mono hb0.size)⟩
/-- from where a policy pays more than it costs -/
def WorthR (x : DPolicy) (w : World) (e : Ending) (w' : World) : Prop :=
  ((∃ f : Nat, f ≤ 10000000 ∧ x.fPremium < paidP x f ∧ (∀ d : Int, d < f → paidP x d ≤ x.fPremium) ∧ e = .returned (.tuple #[.int .i64 f, .int .i64 0])) ∨ e = .returned (.tuple #[.int .i64 0, .int .i64 3])) ∧ Below w.heap.size w w'
set_option maxRecDepth 100000 in
set_option maxHeartbeats 4000000 in
theorem i_WorthFrom (x : DPolicy) (w : World) (hok : okPolicy x = true) (hs : x.fId.size ≤ maxLen) :
    Calls Tryz.prog 15 #[.agg #[.string x.fId, .int .i64 x.fPremium, .int .i64 x.fShare, .int .i64 x.fExcess, .int .i64 x.fMost]] w (WorthR x w) := by
  have hV := fun W => i_validPolicy x W hs
  rw [hok] at hV
  have HB := Lib.hid (PB.of hok)
  have hP := fun W => i_paid x 10000000 W HB.out (by omega) (by omega)
  obtain ⟨M, hM⟩ : ∃ M, paidP x 10000000 = M := ⟨_, rfl⟩
  rw [hM] at hP
  have HM := Lib.hid hM
  have p0 := HB.out.p0
  have p1 := HB.out.p1
  clear hM
  have hR := range_new w #[.string x.fId, .int .i64 x.fPremium, .int .i64 x.fShare, .int .i64 x.fExcess, .int .i64 x.fMost] 35
  have hb0 : Below w.heap.size w (w.alloc (.cells #[.string x.fId, .int .i64 x.fPremium, .int .i64 x.fShare, .int .i64 x.fExcess, .int .i64 x.fMost] 35)) := (Below.refl _ _).alloc (Nat.le_refl _) _
  obtain ⟨W0, hW0⟩ : ∃ W0, w.alloc (.cells #[.string x.fId, .int .i64 x.fPremium, .int .i64 x.fShare, .int .i64 x.fExcess, .int .i64 x.fMost] 35) = W0 := ⟨_, rfl⟩
  rw [hW0] at hR hb0
  have hx0 := hR 0 _ rfl
  have hx1 := hR 1 _ rfl
  have hx2 := hR 2 _ rfl
  have hx3 := hR 3 _ rfl
  have hx4 := hR 4 _ rfl
  simp only [Nat.zero_add] at hx0 hx1 hx2 hx3 hx4
  clear hR hok
  go_enter Tryz.func15, Tryz.ntmps15
  go_wp2_with fail
  try rw [hW0]
  clear hW0
  refine (hV _).mono ?_
  rintro e w1 ⟨rfl, hb1⟩
  replace hx0 := cell_later hb1 hx0
  replace hx1 := cell_later hb1 hx1
  replace hx2 := cell_later hb1 hx2
  replace hx3 := cell_later hb1 hx3
  replace hx4 := cell_later hb1 hx4
  replace hb0 := hb0.trans (hb1.mono hb0.size)
  clear hV hb1
  have hb := Below.refl w1.heap.size w1
  go_wp2_with fail
  go_region_held3 (fun w' => (w'.cell? ⟨w.heap.size, 0, none⟩ = some (.string x.fId) ∧ w'.cell? ⟨w.heap.size, 1, none⟩ = some (.int .i64 x.fPremium) ∧ w'.cell? ⟨w.heap.size, 2, none⟩ = some (.int .i64 x.fShare) ∧ w'.cell? ⟨w.heap.size, 3, none⟩ = some (.int .i64 x.fExcess) ∧ w'.cell? ⟨w.heap.size, 4, none⟩ = some (.int .i64 x.fMost)) ∧ Below w1.heap.size w1 w')
    (first | exact ⟨⟨hx0, hx1, hx2, hx3, hx4⟩, hb.drew⟩
           | (go_split_ands; exact ⟨⟨cell_later hb2 (by assumption), cell_later hb2 (by assumption), cell_later hb2 (by assumption), cell_later hb2 (by assumption), cell_later hb2 (by assumption)⟩, Below.trans (by assumption) (hb2.mono (Below.size (by assumption)))⟩))
    (first | (go_at_call 28; go_split_ands; refine (hP _).mono ?_; rintro e w2 ⟨rfl, hb2⟩))
  rename_i hh
  obtain ⟨hh, hbE⟩ := hh
  have HX := Lib.hid (fun (W : World) (hb : Below w1.heap.size w1 W) => (show (W.cell? ⟨w.heap.size, 0, none⟩ = some (.string x.fId) ∧ W.cell? ⟨w.heap.size, 1, none⟩ = some (.int .i64 x.fPremium) ∧ W.cell? ⟨w.heap.size, 2, none⟩ = some (.int .i64 x.fShare) ∧ W.cell? ⟨w.heap.size, 3, none⟩ = some (.int .i64 x.fExcess) ∧ W.cell? ⟨w.heap.size, 4, none⟩ = some (.int .i64 x.fMost)) from ⟨cell_later hb hx0, cell_later hb hx1, cell_later hb hx2, cell_later hb hx3, cell_later hb hx4⟩))
  have HB0 := Lib.hid hb0
  clear hh hP hb hx0 hx1 hx2 hx3 hx4 hb0
  by_cases hle : M ≤ x.fPremium
  · go_wp2
    go_ret2
    exact ⟨.inr rfl, HB0.out.trans (hbE.mono HB0.out.size)⟩
  have HG : Hid (x.fPremium < paidP x ((10000000 : Nat) : Int)) := Lib.hid (by rw [show ((10000000 : Nat) : Int) = 10000000 from rfl, HM.out]; omega)
  go_wp2_with fail
  go_loopw [4, 5] (fun lo hi wr => ∃ (a b : Nat), lo = .int .i64 a ∧ hi = .int .i64 b ∧ a ≤ b ∧ b ≤ 10000000 ∧ Hid (x.fPremium < paidP x (b : Int)) ∧ Hid (∀ d : Int, d < a → paidP x d ≤ x.fPremium) ∧ Below w1.heap.size w1 wr) (fun lo hi _ => (intOf hi).toNat - (intOf lo).toNat)
  case atStart =>
    refine ⟨0, 10000000, rfl, rfl, by omega, by omega, HG, Lib.hid fun d hd => ?_, hbE⟩
    have h1 := HB.out.paid_mono (d := d) (d' := 0) (by omega)
    rw [HB.out.paid_zero] at h1
    omega
  case round =>
    obtain ⟨a, b, rfl, rfl, hab, hb1, HI, HJ, hb⟩ := hrel
    clear HG hle hbE
    by_cases hlt : a < b
    · obtain ⟨m, hm⟩ : ∃ m : Nat, (a + b) / 2 = m := ⟨_, rfl⟩
      have hm1 : a ≤ m ∧ m < b := by omega
      have hwm : IntKind.i64.wrap (((a : Int) + b).tdiv 2) = (m : Int) := by rw [Int.tdiv_eq_ediv_of_nonneg (by omega), wid (by omega)]; omega
      have hwm2 : ((a : Int) + b).tdiv 2 = (m : Int) := by rw [Int.tdiv_eq_ediv_of_nonneg (by omega)]; omega
      have hwm3 : ((a : Int) + b) / 2 = (m : Int) := by omega
      have hP := fun W => i_paid x (m : Int) W HB.out (by omega) (by omega)
      obtain ⟨p, hp⟩ : ∃ p, paidP x (m : Int) = p := ⟨_, rfl⟩
      rw [hp] at hP
      have HP := Lib.hid hp
      obtain ⟨hx0, hx1, hx2, hx3, hx4⟩ := HX.out _ hb
      have Hm := Lib.hid hm
      clear hp hm
      go_wp2_with fail
      go_region_held3 (fun w' => (w'.cell? ⟨w.heap.size, 0, none⟩ = some (.string x.fId) ∧ w'.cell? ⟨w.heap.size, 1, none⟩ = some (.int .i64 x.fPremium) ∧ w'.cell? ⟨w.heap.size, 2, none⟩ = some (.int .i64 x.fShare) ∧ w'.cell? ⟨w.heap.size, 3, none⟩ = some (.int .i64 x.fExcess) ∧ w'.cell? ⟨w.heap.size, 4, none⟩ = some (.int .i64 x.fMost)) ∧ Below w1.heap.size w1 w')
        (first | exact ⟨⟨hx0, hx1, hx2, hx3, hx4⟩, hb.drew⟩
               | (go_split_ands; exact ⟨⟨cell_later hb2 (by assumption), cell_later hb2 (by assumption), cell_later hb2 (by assumption), cell_later hb2 (by assumption), cell_later hb2 (by assumption)⟩, Below.trans (by assumption) (hb2.mono (Below.size (by assumption)))⟩))
        (first | (go_at_call 28; go_split_ands; refine (hP _).mono ?_; rintro e w2 ⟨rfl, hb2⟩))
      rename_i hh
      obtain ⟨_, hbE⟩ := hh
      by_cases hgt : x.fPremium < p
      · have HI2 : Hid (x.fPremium < paidP x (m : Int)) := Lib.hid (by rw [HP.out]; exact hgt)
        clear hP hx0 hx1 hx2 hx3 hx4
        go_wp2
        first | (refine ⟨⟨a, m, rfl, by first | rfl | go_num, by omega, by omega, HI2, HJ, hbE⟩, ?_⟩; (simp [intOf]; omega)) | (go_roundw; (case rel => first | exact ⟨a, m, rfl, by first | rfl | go_num, by omega, by omega, HI2, HJ, hbE⟩ | ((try refine ⟨trivial, ?_⟩); (repeat apply Exists.intro); exact ⟨⟨a, m, rfl, by first | rfl | go_num, by omega, by omega, HI2, HJ, hbE⟩, rfl⟩)); (case measure => (simp [intOf]; omega)))
      · have HJ2 : Hid (∀ d : Int, d < ((m + 1 : Nat) : Int) → paidP x d ≤ x.fPremium) := Lib.hid fun d hd => by
          have h1 := HB.out.paid_mono (d := d) (d' := m) (by omega)
          rw [HP.out] at h1
          omega
        clear hP hx0 hx1 hx2 hx3 hx4
        go_wp2
        first | (refine ⟨⟨m + 1, b, by first | rfl | go_num, rfl, by omega, by omega, HI, HJ2, hbE⟩, ?_⟩; (simp [intOf]; omega)) | (go_roundw; (case rel => first | exact ⟨m + 1, b, by first | rfl | go_num, rfl, by omega, by omega, HI, HJ2, hbE⟩ | ((try refine ⟨trivial, ?_⟩); (repeat apply Exists.intro); exact ⟨⟨m + 1, b, by first | rfl | go_num, rfl, by omega, by omega, HI, HJ2, hbE⟩, rfl⟩)); (case measure => (simp [intOf]; omega)))
    · obtain rfl : a = b := by omega
      go_wp2
      go_ret2
      exact ⟨.inl ⟨a, hb1, HI.out, HJ.out, rfl⟩, HB0.out.trans (hb.mono HB0.out.size)⟩
end Go.Proofs.YtflhpjfnpioldaaGreatDoor
