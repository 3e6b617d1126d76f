/- Policy: the text of a good one, and that it is read back. Printed by a program of mine. -/
import Derived.Test.YtflhpjfnpioldaaGreatDoorRows
import Derived.Test.YtflhpjfnpioldaaGreatDoorRPolicy
import Derived.Test.YtflhpjfnpioldaaGreatDoorWords3
import Derived.Deep.RegionHeld3
namespace Go.Proofs.YtflhpjfnpioldaaGreatDoor
set_option linter.unusedVariables false
set_option linter.unusedSimpArgs false
set_option linter.unusedSectionVars false
open Go.RowKit

def txPolicy (x : DPolicy) : ByteArray := x.fId ++ ⟨#[32]⟩ ++ ofL (textL [x.fPremium, x.fShare, x.fExcess, x.fMost])
theorem policy_name10 {s : ByteArray} (h : nameB s = true) : s.size ≤ 10 := by
  unfold nameB at h
  rw [Bool.and_eq_true, Bool.and_eq_true] at h
  have := of_decide_eq_true h.2.2
  omega
theorem okPolicy_nums {x : DPolicy} (h : okPolicy x = true) : nameB x.fId = true ∧ ∀ n ∈ [x.fPremium, x.fShare, x.fExcess, x.fMost], -1000000000000 ≤ n ∧ n ≤ 1000000000000 := by
  unfold okPolicy inB at h
  simp only [Bool.and_eq_true, decide_eq_true_eq] at h
  refine ⟨h.1, fun n hn => ?_⟩
  simp only [List.mem_cons, List.mem_nil_iff, or_false] at hn
  rcases hn with rfl | rfl | rfl | rfl <;> omega
theorem read_txPolicy {x : DPolicy} (h : okPolicy x = true) : policyV (txPolicy x) = x ∧ policyOk (txPolicy x) = true ∧ (txPolicy x).size ≤ 1300 := by
  obtain ⟨hn, hr⟩ := okPolicy_nums h
  have hl : namedL 4 (txPolicy x).data.toList = some (x.fId.data.toList, [x.fPremium, x.fShare, x.fExcess, x.fMost]) := by
    unfold txPolicy namedL
    rw [ba_app, ba_app, ofL_data]
    rw [show x.fId.data.toList ++ (⟨#[32]⟩ : ByteArray).data.toList ++ textL [x.fPremium, x.fShare, x.fExcess, x.fMost] = x.fId.data.toList ++ 32 :: textL [x.fPremium, x.fShare, x.fExcess, x.fMost] by simp]
    rw [cuts_app (name_noblank hn).1, cuts_none (textL_noblank hr)]
    simp only
    rw [list_text hr (by simp)]
    rfl
  have ho : policyO (txPolicy x) = some x := by
    unfold policyO
    rw [hl]
    simp only [ofL_self]
    exact if_pos h
  refine ⟨by unfold policyV; rw [ho]; rfl, by unfold policyOk; rw [ho]; rfl, ?_⟩
  unfold txPolicy
  rw [ba_app_size, ba_app_size, ofL_size]
  have h1 := policy_name10 hn
  have h2 := textL_len hr (by simp)
  show _ + 1 + _ ≤ _
  omega
set_option maxRecDepth 100000 in
set_option maxHeartbeats 2000000 in
theorem i_PolicyText_yes (x : DPolicy) (w : World) (hok : okPolicy x = true) (hs : x.fId.size ≤ maxLen) (hL : LibW w) :
    Calls Tryz.prog 14 #[.agg #[.string x.fId, .int .i64 x.fPremium, .int .i64 x.fShare, .int .i64 x.fExcess, .int .i64 x.fMost]] w fun e w' => e = .returned (.string (txPolicy x)) ∧ Below w.heap.size w w' := by
  have hV := fun W => i_validPolicy x W hs
  rw [hok] at hV
  obtain ⟨hn, hnr⟩ := okPolicy_nums hok
  have h10 := policy_name10 hn
  have HC : Hid (∀ W A c, Rd intE W A 4 [x.fPremium, x.fShare, x.fExcess, x.fMost] → LibW W → Calls Tryz.prog 30 #[.string x.fId, .slice A 4 c] W fun e w' => e = .returned (.string (txPolicy x)) ∧ Below W.heap.size W w') := Lib.hid (fun W A c h1 h2 => i_named x.fId A 4 c _ W (by omega) h1 (by omega) hnr h2)
  have hR := range_new w #[.string x.fId, .int .i64 x.fPremium, .int .i64 x.fShare, .int .i64 x.fExcess, .int .i64 x.fMost] 35
  have hb0 : Below w.heap.size w (w.alloc (.cells #[.string x.fId, .int .i64 x.fPremium, .int .i64 x.fShare, .int .i64 x.fExcess, .int .i64 x.fMost] 35)) := (Below.refl _ _).alloc (Nat.le_refl _) _
  obtain ⟨W0, hW0⟩ : ∃ W0, w.alloc (.cells #[.string x.fId, .int .i64 x.fPremium, .int .i64 x.fShare, .int .i64 x.fExcess, .int .i64 x.fMost] 35) = W0 := ⟨_, rfl⟩
  rw [hW0] at hR hb0
  have hx0 := hR 0 _ rfl
  have hx1 := hR 1 _ rfl
  have hx2 := hR 2 _ rfl
  have hx3 := hR 3 _ rfl
  have hx4 := hR 4 _ rfl
  simp only [Nat.zero_add] at hx0 hx1 hx2 hx3 hx4
  clear hR hn hnr hok
  go_enter Tryz.func14, Tryz.ntmps14
  go_wp2_with fail
  try rw [hW0]
  clear hW0
  refine (hV _).mono ?_
  rintro e w1 ⟨rfl, hb1⟩
  replace hx0 := cell_later hb1 hx0
  replace hx1 := cell_later hb1 hx1
  replace hx2 := cell_later hb1 hx2
  replace hx3 := cell_later hb1 hx3
  replace hx4 := cell_later hb1 hx4
  replace hb0 := hb0.trans (hb1.mono hb0.size)
  clear hV hb1
  have hlit : Rd intE (w1.alloc (.cells #[.int .i64 x.fPremium, .int .i64 x.fShare, .int .i64 x.fExcess, .int .i64 x.fMost] 2)) (some ⟨w1.heap.size, 0, none⟩) 4 [x.fPremium, x.fShare, x.fExcess, x.fMost] := Rd.lit1 intE rfl rfl rfl
  have hb2 : Below w.heap.size w (w1.alloc (.cells #[.int .i64 x.fPremium, .int .i64 x.fShare, .int .i64 x.fExcess, .int .i64 x.fMost] 2)) := hb0.alloc hb0.size _
  go_wp2_with fail
  refine (HC.out _ _ _ hlit (hL.below hb2)).mono ?_
  rintro e w3 ⟨rfl, hb3⟩
  clear hlit HC
  go_wp2
  go_ret
  exact ⟨rfl, hb2.trans (hb3.mono hb2.size)⟩
end Go.Proofs.YtflhpjfnpioldaaGreatDoor
