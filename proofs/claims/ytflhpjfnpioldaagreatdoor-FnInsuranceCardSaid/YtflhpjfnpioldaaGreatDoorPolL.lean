/- Policies: the one with the least cost, those that no one beats, where two cross. Printed by a program of mine. -/
import Derived.Test.YtflhpjfnpioldaaGreatDoorRows
import Derived.Test.YtflhpjfnpioldaaGreatDoorPolF
namespace Go.Proofs.YtflhpjfnpioldaaGreatDoor
set_option linter.unusedVariables false
set_option linter.unusedSimpArgs false
set_option linter.unusedSectionVars false
open Go.RowKit

def LeastTo {α : Type} (f : α → Int) (l : List α) (k : Nat) (y : α) : Prop := ∀ (j : Nat) (x : α), j < k → l[j]? = some x → f y ≤ f x
section
variable {α : Type} {f : α → Int} {l : List α} {k : Nat} {x y : α}
theorem LeastTo.keep (h : LeastTo f l k y) (hx : l[k]? = some x) (hle : f y ≤ f x) : LeastTo f l (k + 1) y := fun j z hj hz => by
  rcases Nat.lt_or_ge j k with h1 | h1
  · exact h j z h1 hz
  · obtain rfl : j = k := by omega
    rw [hx] at hz
    cases hz
    exact hle
theorem LeastTo.new (h : LeastTo f l k y) (hx : l[k]? = some x) (hlt : f x < f y) : LeastTo f l (k + 1) x := fun j z hj hz => by
  rcases Nat.lt_or_ge j k with h1 | h1
  · have := h j z h1 hz; omega
  · obtain rfl : j = k := by omega
    rw [hx] at hz
    cases hz
    exact Int.le_refl _
theorem LeastTo.all (h : LeastTo f l k y) (hk : l.length ≤ k) : ∀ x ∈ l, f y ≤ f x := fun x hx => by
  obtain ⟨j, hj⟩ := List.mem_iff_getElem?.1 hx
  exact h j x (by have := (List.getElem?_eq_some_iff.1 hj).1; omega) hj
end
def BestR (l : List DPolicy) (ds : List Int) (w : World) (e : Ending) (w' : World) : Prop :=
  ((l = [] ∧ e = .returned (.tuple #[.int .i64 0, .int .i64 0, .int .i64 3])) ∨
    ∃ (q : Nat) (y : DPolicy), l[q]? = some y ∧ (∀ x ∈ l, costP y ds ≤ costP x ds) ∧ e = .returned (.tuple #[.int .i64 q, .int .i64 (costP y ds), .int .i64 0])) ∧ Below w.heap.size w w'
set_option maxRecDepth 100000 in
set_option maxHeartbeats 4000000 in
theorem i_BestPolicy (A : Option Addr) (n c : Nat) (l : List DPolicy) (AD : Option Addr) (nD cD : Nat) (ds : List Int) (w : World) (hr : Rd policyE w A n l) (hok : OkPolicys l) (hrd : Rd intE w AD nD ds) (hd : Dams ds) :
    Calls Tryz.prog 8 #[.slice A n c, .slice AD nD cD] w (BestR l ds w) := by
  have Hl := Lib.hid hr.1
  have hn : n ≤ 8 := by have := hok.few; have := hr.1; omega
  have HO := Lib.hid hok
  have HC := Lib.hid (fun (x : DPolicy) (hx : x ∈ l) (W : World) (hb : Below w.heap.size w W) => i_costP x AD nD cD ds W (hok.pb x hx) (hrd.below hb) hd)
  have hV := fun W hb => i_ValidPolicies_yes A n c l W (hr.below hb) hok
  have hM := fun W hb => i_areDamages AD nD cD ds W (hrd.below hb) hd
  clear hok hrd hd
  go_enter Tryz.func8, Tryz.ntmps8
  go_wp2_with fail
  refine (hV _ (Below.refl _ _)).mono ?_
  rintro e w1 ⟨rfl, hb1⟩
  clear hV
  go_wp2_with fail
  refine (hM _ hb1).mono ?_
  rintro e w2 ⟨rfl, hb2⟩
  have HB := Lib.hid (hb1.trans (hb2.mono hb1.size))
  clear hM hb1 hb2
  by_cases hn0 : n = 0
  · subst hn0
    have E : Hid (l = []) := Lib.hid (List.eq_nil_of_length_eq_zero Hl.out)
    go_wp2
    go_ret3
    exact ⟨.inl ⟨E.out, rfl⟩, HB.out⟩
  have hne : ((n : Int) == 0) = false := by rw [beq_eq_false_iff_ne]; omega
  go_wp2_with fail
  go_loopw [7, 24] (fun v i wr => ∃ (k q : Nat) (y : DPolicy), k ≤ n ∧ i = .int .i64 k ∧ v = .int .i64 q ∧ q < n ∧ Hid (l[q]? = some y) ∧ Hid (LeastTo (fun x => costP x ds) l k y) ∧ Below w.heap.size w wr) (fun _ i _ => n - (intOf i).toNat)
  case atStart =>
    obtain ⟨y, hy⟩ : ∃ y, l[0]? = some y := ⟨_, List.getElem?_eq_getElem (by have := Hl.out; omega)⟩
    exact ⟨0, 0, y, Nat.zero_le _, rfl, rfl, by omega, Lib.hid hy, Lib.hid fun j x hj => by omega, HB.out⟩
  case round =>
    obtain ⟨k, q, y, hk, rfl, rfl, hq, HY, HL, hb⟩ := hrel
    clear HB
    obtain ⟨b, off, rfl, hcs⟩ := hr.2 (by omega)
    have hcy := range_below (B := 0) (hcs q y HY.out) hb
    have hd0 := hcy 0 _ rfl
    have hd1 := hcy 1 _ rfl
    have hd2 := hcy 2 _ rfl
    have hd3 := hcy 3 _ rfl
    have hd4 := hcy 4 _ rfl
    simp only [policyE, Nat.add_zero] at hd0 hd1 hd2 hd3 hd4
    have HPy : Hid (∀ W, Below w.heap.size w W → Calls Tryz.prog 23 #[.agg #[.string y.fId, .int .i64 y.fPremium, .int .i64 y.fShare, .int .i64 y.fExcess, .int .i64 y.fMost], .slice AD nD cD] W fun e w' => e = .returned (.int .i64 (costP y ds)) ∧ Below W.heap.size W w') := Lib.hid (HC.out y (mem_of_get HY.out))
    clear hcy
    by_cases hlt : k < n
    · obtain ⟨x, hx⟩ : ∃ x, l[k]? = some x := ⟨_, List.getElem?_eq_getElem (by have := Hl.out; omega)⟩
      have hcr := range_below (B := 0) (hcs k x hx) hb
      have hc0 := hcr 0 _ rfl
      have hc1 := hcr 1 _ rfl
      have hc2 := hcr 2 _ rfl
      have hc3 := hcr 3 _ rfl
      have hc4 := hcr 4 _ rfl
      simp only [policyE, Nat.add_zero] at hc0 hc1 hc2 hc3 hc4
      have HPx : Hid (∀ W, Below w.heap.size w W → Calls Tryz.prog 23 #[.agg #[.string x.fId, .int .i64 x.fPremium, .int .i64 x.fShare, .int .i64 x.fExcess, .int .i64 x.fMost], .slice AD nD cD] W fun e w' => e = .returned (.int .i64 (costP x ds)) ∧ Below W.heap.size W w') := Lib.hid (HC.out x (mem_of_get hx))
      have HK := Lib.hid (fun hle => HL.out.keep hx hle)
      have HN := Lib.hid (fun hlt => HL.out.new hx hlt)
      have HX := Lib.hid hx
      obtain ⟨P, hPP⟩ : ∃ P, costP x ds = P := ⟨_, rfl⟩
      obtain ⟨R, hRR⟩ : ∃ R, costP y ds = R := ⟨_, rfl⟩
      rw [hPP] at HPx HK HN
      rw [hRR] at HPy HK HN
      clear hcr hx hcs hPP hRR HL
      have hcx := range_new wr #[.string x.fId, .int .i64 x.fPremium, .int .i64 x.fShare, .int .i64 x.fExcess, .int .i64 x.fMost] 35
      have hb0 : Below w.heap.size w (wr.alloc (.cells #[.string x.fId, .int .i64 x.fPremium, .int .i64 x.fShare, .int .i64 x.fExcess, .int .i64 x.fMost] 35)) := hb.alloc hb.size _
      have hba : Below wr.heap.size wr (wr.alloc (.cells #[.string x.fId, .int .i64 x.fPremium, .int .i64 x.fShare, .int .i64 x.fExcess, .int .i64 x.fMost] 35)) := (Below.refl _ _).alloc (Nat.le_refl _) _
      obtain ⟨W0, hW0⟩ : ∃ W0, wr.alloc (.cells #[.string x.fId, .int .i64 x.fPremium, .int .i64 x.fShare, .int .i64 x.fExcess, .int .i64 x.fMost] 35) = W0 := ⟨_, rfl⟩
      rw [hW0] at hb0 hcx hba
      have hx0 := hcx 0 _ rfl
      have hx1 := hcx 1 _ rfl
      have hx2 := hcx 2 _ rfl
      have hx3 := hcx 3 _ rfl
      have hx4 := hcx 4 _ rfl
      simp only [Nat.zero_add] at hx0 hx1 hx2 hx3 hx4
      clear hcx
      go_wp2_with fail
      try rw [hW0]
      replace hd0 := cell_later hba hd0
      replace hd1 := cell_later hba hd1
      replace hd2 := cell_later hba hd2
      replace hd3 := cell_later hba hd3
      replace hd4 := cell_later hba hd4
      clear hW0 hba hc0 hc1 hc2 hc3 hc4
      go_region_held3 (fun w' => (w'.cell? ⟨wr.heap.size, 0, none⟩ = some (.string x.fId) ∧ w'.cell? ⟨wr.heap.size, 1, none⟩ = some (.int .i64 x.fPremium) ∧ w'.cell? ⟨wr.heap.size, 2, none⟩ = some (.int .i64 x.fShare) ∧ w'.cell? ⟨wr.heap.size, 3, none⟩ = some (.int .i64 x.fExcess) ∧ w'.cell? ⟨wr.heap.size, 4, none⟩ = some (.int .i64 x.fMost)) ∧ (w'.cell? ⟨b, off + q * 5, none⟩ = some (.string y.fId) ∧ w'.cell? ⟨b, off + q * 5 + 1, none⟩ = some (.int .i64 y.fPremium) ∧ w'.cell? ⟨b, off + q * 5 + 2, none⟩ = some (.int .i64 y.fShare) ∧ w'.cell? ⟨b, off + q * 5 + 3, none⟩ = some (.int .i64 y.fExcess) ∧ w'.cell? ⟨b, off + q * 5 + 4, none⟩ = some (.int .i64 y.fMost)) ∧ Below w.heap.size w w')
        (first | exact ⟨⟨hx0, hx1, hx2, hx3, hx4⟩, ⟨hd0, hd1, hd2, hd3, hd4⟩, hb0.drew⟩
               | (go_split_ands; exact ⟨⟨cell_later hb2 (by assumption), cell_later hb2 (by assumption), cell_later hb2 (by assumption), cell_later hb2 (by assumption), cell_later hb2 (by assumption)⟩, ⟨cell_later hb2 (by assumption), cell_later hb2 (by assumption), cell_later hb2 (by assumption), cell_later hb2 (by assumption), cell_later hb2 (by assumption)⟩, Below.trans (by assumption) (hb2.mono (Below.size (by assumption)))⟩))
        (first | (go_at_call 23; go_split_ands; first | (with_reducible refine (HPx.out _ (by assumption)).mono ?_; rintro e w2 ⟨rfl, hb2⟩) | (with_reducible refine (HPy.out _ (by assumption)).mono ?_; rintro e w2 ⟨rfl, hb2⟩)))
      rename_i hh
      obtain ⟨_, _, hbE⟩ := hh
      by_cases hpr : P < R
      · have HM := Lib.hid (HN.out hpr)
        clear HK HN
        go_wp2
        first | (refine ⟨⟨k + 1, k, x, by omega, by go_num, rfl, hlt, HX, HM, hbE⟩, ?_⟩; (simp [intOf]; omega)) | (go_roundw; (case rel => first | exact ⟨k + 1, k, x, by omega, by go_num, rfl, hlt, HX, HM, hbE⟩ | ((try refine ⟨trivial, ?_⟩); (repeat apply Exists.intro); exact ⟨⟨k + 1, k, x, by omega, by go_num, rfl, hlt, HX, HM, hbE⟩, rfl⟩)); (case measure => (simp [intOf]; omega)))
      · have HM := Lib.hid (HK.out (by omega))
        clear HK HN
        go_wp2
        first | (refine ⟨⟨k + 1, q, y, by omega, by go_num, rfl, hq, HY, HM, hbE⟩, ?_⟩; (simp [intOf]; omega)) | (go_roundw; (case rel => first | exact ⟨k + 1, q, y, by omega, by go_num, rfl, hq, HY, HM, hbE⟩ | ((try refine ⟨trivial, ?_⟩); (repeat apply Exists.intro); exact ⟨⟨k + 1, q, y, by omega, by go_num, rfl, hq, HY, HM, hbE⟩, rfl⟩)); (case measure => (simp [intOf]; omega)))
    · have E := Lib.hid (HL.out.all (by have := Hl.out; omega))
      have hP := HPy.out
      clear HPy HL hcs
      go_wp2_with fail
      refine (hP _ hb).mono ?_
      rintro e w2 ⟨rfl, hb2⟩
      clear hP
      go_wp2
      go_ret3
      exact ⟨.inr ⟨q, y, HY.out, E.out, rfl⟩, hb.trans (hb2.mono hb.size)⟩
set_option maxRecDepth 100000 in
set_option maxHeartbeats 4000000 in
theorem i_Unbeaten (A : Option Addr) (n c : Nat) (l : List DPolicy) (w : World) (hr : Rd policyE w A n l) (hok : OkPolicys l) :
    Calls Tryz.prog 9 #[.slice A n c] w (RetLC strE 9 (bestIds l l) 0 w) := by
  obtain ⟨i0, hi, hz0, hz1, hz2⟩ := info_parts Tryz.info_str
  have HZ := Lib.hid (And.intro hz1 hz2)
  clear hz1 hz2
  have Hl := Lib.hid hr.1
  have hn : n ≤ 8 := by have := hok.few; have := hr.1; omega
  have hV := fun W hb => i_ValidPolicies_yes A n c l W (hr.below hb) hok
  have HR := Lib.hid hr
  clear hok hr
  go_enter Tryz.func9, Tryz.ntmps9
  go_wp2_with fail
  refine (hV _ (Below.refl _ _)).mono ?_
  rintro e w1 ⟨rfl, hb1⟩
  have HB1 := Lib.hid hb1
  have HR1 := Lib.hid (HR.out.below hb1)
  clear hV hb1 HR
  have HG0 : Hid (GL strE 9 w1.heap.size (w1.alloc (.cells #[] 9)) (.slice (some ⟨w1.heap.size, 0, none⟩) 0 0) []) := Lib.hid (GL.mk0 (Nat.le_refl _))
  have hbS : Below w1.heap.size w1 (w1.alloc (.cells #[] 9)) := (Below.refl _ _).alloc (Nat.le_refl _) _
  go_wp2_with fail
  go_loopw [4, 16] (fun v i wr => ∃ (k : Nat) (A' : Option Addr) (z c' : Nat), k ≤ n ∧ i = .int .i64 k ∧ v = .slice A' z c' ∧ z ≤ k ∧ Hid (GL strE 9 w1.heap.size wr (.slice A' z c') (bestIds l (l.take k))) ∧ Below w1.heap.size w1 wr) (fun _ i _ => n - (intOf i).toNat)
  case atStart => exact ⟨0, _, 0, 0, Nat.zero_le _, rfl, rfl, by omega, Lib.hid (by simpa [bestIds] using HG0.out), hbS⟩
  case round =>
    obtain ⟨k, A', z, c', hk, rfl, rfl, hz, HG, hb⟩ := hrel
    clear HG0 hbS
    by_cases hlt : k < n
    · obtain ⟨b, off, rfl, hcs⟩ := HR1.out.2 (by omega)
      obtain ⟨x, hx⟩ : ∃ x, l[k]? = some x := ⟨_, List.getElem?_eq_getElem (by have := Hl.out; omega)⟩
      have hcr := range_below (B := 0) (hcs k x hx) hb
      have hc0 := hcr 0 _ rfl
      have hc1 := hcr 1 _ rfl
      have hc2 := hcr 2 _ rfl
      have hc3 := hcr 3 _ rfl
      have hc4 := hcr 4 _ rfl
      simp only [policyE, Nat.add_zero] at hc0 hc1 hc2 hc3 hc4
      have HX := Lib.hid hx
      have HCS := Lib.hid hcs
      clear hcr hx hcs
      have hcx := range_new wr #[.string x.fId, .int .i64 x.fPremium, .int .i64 x.fShare, .int .i64 x.fExcess, .int .i64 x.fMost] 35
      have hb0 : Below w1.heap.size w1 (wr.alloc (.cells #[.string x.fId, .int .i64 x.fPremium, .int .i64 x.fShare, .int .i64 x.fExcess, .int .i64 x.fMost] 35)) := hb.alloc hb.size _
      have hg0 : Hid (GL strE 9 w1.heap.size (wr.alloc (.cells #[.string x.fId, .int .i64 x.fPremium, .int .i64 x.fShare, .int .i64 x.fExcess, .int .i64 x.fMost] 35)) (.slice A' z c') (bestIds l (l.take k))) := Lib.hid (HG.out.alloc _)
      obtain ⟨W0, hW0⟩ : ∃ W0, wr.alloc (.cells #[.string x.fId, .int .i64 x.fPremium, .int .i64 x.fShare, .int .i64 x.fExcess, .int .i64 x.fMost] 35) = W0 := ⟨_, rfl⟩
      rw [hW0] at hb0 hcx hg0
      have HCX := Lib.hid hcx
      have HB0 := Lib.hid hb0
      have hbx : wr.heap.size < W0.heap.size := by rw [← hW0]; simp
      clear hcx hb0 HG
      go_wp2_with fail
      try rw [hW0]
      clear hW0 hc0 hc1 hc2 hc3 hc4
      obtain ⟨bx, hbx'⟩ : ∃ bx, wr.heap.size = bx := ⟨_, rfl⟩
      rw [hbx'] at hbx HCX
      try rw [hbx']
      clear hbx'
      obtain ⟨wo, hwo⟩ : ∃ wo : World, wo = W0 := ⟨_, rfl⟩
      subst hwo
      go_loopw [7, 22] (fun v i wi => ∃ (j : Nat), j ≤ n ∧ i = .int .i64 j ∧ v = .bool ((l.take j).any fun y => beatsB y x) ∧ Below wo.heap.size wo wi) (fun _ i _ => n - (intOf i).toNat)
      case atStart => exact ⟨0, Nat.zero_le _, rfl, rfl, Below.refl _ _⟩
      case round =>
        obtain ⟨j, hj, rfl, rfl, hbi⟩ := hrel
        have hcx := range_below (B := 0) HCX.out hbi
        have hx0 := hcx 0 _ rfl
        have hx1 := hcx 1 _ rfl
        have hx2 := hcx 2 _ rfl
        have hx3 := hcx 3 _ rfl
        have hx4 := hcx 4 _ rfl
        simp only [Nat.zero_add] at hx0 hx1 hx2 hx3 hx4
        clear hcx
        have hbT := HB0.out.trans (hbi.mono HB0.out.size)
        by_cases hjn : j < n
        · obtain ⟨y, hy⟩ : ∃ y, l[j]? = some y := ⟨_, List.getElem?_eq_getElem (by have := Hl.out; omega)⟩
          have hcr := range_below (B := 0) (HCS.out j y hy) hbT
          have hc0 := hcr 0 _ rfl
          have hc1 := hcr 1 _ rfl
          have hc2 := hcr 2 _ rfl
          have hc3 := hcr 3 _ rfl
          have hc4 := hcr 4 _ rfl
          simp only [policyE, Nat.add_zero] at hc0 hc1 hc2 hc3 hc4
          have HS : Hid (((l.take (j + 1)).any fun y => beatsB y x) = (((l.take j).any fun y => beatsB y x) || beatsB y x)) := Lib.hid (by rw [take_of_get hy, List.any_append]; simp)
          have hBt := fun W => i_beats y x W
          obtain ⟨r, hrr⟩ : ∃ r, beatsB y x = r := ⟨_, rfl⟩
          rw [hrr] at HS hBt
          clear hcr hy hrr
          have hcy := range_new wr #[.string y.fId, .int .i64 y.fPremium, .int .i64 y.fShare, .int .i64 y.fExcess, .int .i64 y.fMost] 35
          have hba : Below wr.heap.size wr (wr.alloc (.cells #[.string y.fId, .int .i64 y.fPremium, .int .i64 y.fShare, .int .i64 y.fExcess, .int .i64 y.fMost] 35)) := (Below.refl _ _).alloc (Nat.le_refl _) _
          have hb0 : Below wo.heap.size wo (wr.alloc (.cells #[.string y.fId, .int .i64 y.fPremium, .int .i64 y.fShare, .int .i64 y.fExcess, .int .i64 y.fMost] 35)) := hbi.alloc hbi.size _
          obtain ⟨V0, hV0⟩ : ∃ V0, wr.alloc (.cells #[.string y.fId, .int .i64 y.fPremium, .int .i64 y.fShare, .int .i64 y.fExcess, .int .i64 y.fMost] 35) = V0 := ⟨_, rfl⟩
          rw [hV0] at hb0 hcy hba
          have hy0 := hcy 0 _ rfl
          have hy1 := hcy 1 _ rfl
          have hy2 := hcy 2 _ rfl
          have hy3 := hcy 3 _ rfl
          have hy4 := hcy 4 _ rfl
          simp only [Nat.zero_add] at hy0 hy1 hy2 hy3 hy4
          clear hcy
          rcases hbv : (l.take j).any (fun y => beatsB y x) with _ | _
          · rw [hbv, Bool.false_or] at HS
            clear hbv
            replace hx0 := cell_later hba hx0
            replace hx1 := cell_later hba hx1
            replace hx2 := cell_later hba hx2
            replace hx3 := cell_later hba hx3
            replace hx4 := cell_later hba hx4
            go_wp2_with fail
            try rw [hV0]
            clear hV0 hba hc0 hc1 hc2 hc3 hc4
            refine (hBt _).mono ?_
            rintro e w3 ⟨rfl, hb3⟩
            have hbN := hb0.trans (hb3.mono hb0.size)
            clear hBt hb3 hx0 hx1 hx2 hx3 hx4 hy0 hy1 hy2 hy3 hy4
            go_wp2
            first | (refine ⟨⟨j + 1, by omega, by go_num, by rw [HS.out], hbN⟩, ?_⟩; (simp [intOf]; omega)) | (go_roundw; (case rel => first | exact ⟨j + 1, by omega, by go_num, by rw [HS.out], hbN⟩ | ((try refine ⟨trivial, ?_⟩); (repeat apply Exists.intro); exact ⟨⟨j + 1, by omega, by go_num, by rw [HS.out], hbN⟩, rfl⟩)); (case measure => (simp [intOf]; omega)))
          · rw [hbv, Bool.true_or] at HS
            clear hbv hBt
            go_wp2
            first | (refine ⟨⟨j + 1, by omega, by go_num, by rw [HS.out], (by first | exact hb0 | (rw [hV0]; exact hb0))⟩, ?_⟩; (simp [intOf]; omega)) | (go_roundw; (case rel => first | exact ⟨j + 1, by omega, by go_num, by rw [HS.out], (by first | exact hb0 | (rw [hV0]; exact hb0))⟩ | ((try refine ⟨trivial, ?_⟩); (repeat apply Exists.intro); exact ⟨⟨j + 1, by omega, by go_num, by rw [HS.out], (by first | exact hb0 | (rw [hV0]; exact hb0))⟩, rfl⟩)); (case measure => (simp [intOf]; omega)))
        · obtain rfl : j = n := by omega
          have E : Hid (((l.take j).any fun y => beatsB y x) = l.any fun y => beatsB y x) := Lib.hid (by rw [List.take_of_length_le (by have := Hl.out; omega)])
          rw [E.out]
          have HGi := Lib.hid (hg0.out.below hbi)
          rcases hbv : l.any (fun y => beatsB y x) with _ | _
          · have HN : Hid (bestIds l (l.take (k + 1)) = bestIds l (l.take k) ++ [x.fId]) := Lib.hid (by rw [take_of_get HX.out, bestIds_app]; congr 1; unfold bestIds; simp [hbv])
            have hgl := HGi.out
            clear hbv E HGi hg0
            go_wp2_with (at_builtin; refine wpList_pushO strE rfl _ _ 30 rfl w1.heap.size 9 i0 _ 16 Tryz.underlying30 hi hz0 HZ.out.1 HZ.out.2 rfl A' z c' _ x.fId rfl (hgl.alloc _) wr.heap.size rfl (range_new _ _ _) (by omega) (by decide) (by have := hbT.size; simp; omega) ?_; intro A2 c2 w4 hgl4 ht4 _)
            have HG4 : Hid (GL strE 9 w1.heap.size w4 (.slice A2 (z + 1) c2) (bestIds l (l.take (k + 1)))) := Lib.hid (by rw [HN.out]; exact hgl4)
            have hb4 : Below w1.heap.size w1 w4 := Below.touch (hbT.alloc hbT.size _) ht4 (fun q hq => (hgl.lt q hq).1) (by have := hbT.size; simp; omega)
            clear hgl hgl4 ht4
            go_wp2
            first | (refine ⟨⟨k + 1, A2, z + 1, c2, by omega, by go_num, rfl, by omega, HG4, hb4⟩, ?_⟩; (simp [intOf]; omega)) | (go_roundw; (case rel => first | exact ⟨k + 1, A2, z + 1, c2, by omega, by go_num, rfl, by omega, HG4, hb4⟩ | ((try refine ⟨trivial, ?_⟩); (repeat apply Exists.intro); exact ⟨⟨k + 1, A2, z + 1, c2, by omega, by go_num, rfl, by omega, HG4, hb4⟩, rfl⟩)); (case measure => (simp [intOf]; omega)))
          · have HN : Hid (GL strE 9 w1.heap.size wr (.slice A' z c') (bestIds l (l.take (k + 1)))) := Lib.hid (by rw [take_of_get HX.out, bestIds_app]; rw [show bestIds l [x] = [] by unfold bestIds; simp [hbv], List.append_nil]; exact HGi.out)
            clear hbv E HGi hg0
            go_wp2
            first | (refine ⟨⟨k + 1, A', z, c', by omega, by go_num, rfl, by omega, HN, hbT⟩, ?_⟩; (simp [intOf]; omega)) | (go_roundw; (case rel => first | exact ⟨k + 1, A', z, c', by omega, by go_num, rfl, by omega, HN, hbT⟩ | ((try refine ⟨trivial, ?_⟩); (repeat apply Exists.intro); exact ⟨⟨k + 1, A', z, c', by omega, by go_num, rfl, by omega, HN, hbT⟩, rfl⟩)); (case measure => (simp [intOf]; omega)))
    · obtain rfl : k = n := by omega
      have E : Hid (l.take k = l) := Lib.hid (List.take_of_length_le (by have := Hl.out; omega))
      rw [E.out] at HG
      have hgl := HG.out
      clear HG
      go_wp2
      go_ret2
      have ho := (hgl.mono HB1.out.size).own
      exact ⟨A', z, c', ho.1, by omega, ho.2, rfl, HB1.out.trans (hb.mono HB1.out.size)⟩
end Go.Proofs.YtflhpjfnpioldaaGreatDoor
