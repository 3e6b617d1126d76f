/- Good: the text of a good one, and that it is read back. Printed by a program of mine. -/
import Derived.Test.YtfogginmdglagaaGreatDoorRows
import Derived.Test.YtfogginmdglagaaGreatDoorRGood
import Derived.Test.YtfogginmdglagaaGreatDoorWords3
import Derived.Deep.RegionHeld3
namespace Go.Proofs.YtfogginmdglagaaGreatDoor
set_option linter.unusedVariables false
set_option linter.unusedSimpArgs false
set_option linter.unusedSectionVars false
open Go.RowKit

def txGood (x : DGood) : ByteArray := x.fId ++ ⟨#[32]⟩ ++ ofL (textL [x.fCount, x.fLeast, x.fPrice])
theorem good_name10 {s : ByteArray} (h : nameB s = true) : s.size ≤ 10 := by
  unfold nameB at h
  rw [Bool.and_eq_true, Bool.and_eq_true] at h
  have := of_decide_eq_true h.2.2
  omega
theorem okGood_nums {x : DGood} (h : okGood x = true) : nameB x.fId = true ∧ ∀ n ∈ [x.fCount, x.fLeast, x.fPrice], -1000000000000 ≤ n ∧ n ≤ 1000000000000 := by
  unfold okGood inB at h
  simp only [Bool.and_eq_true, decide_eq_true_eq] at h
  refine ⟨h.1, fun n hn => ?_⟩
  simp only [List.mem_cons, List.mem_nil_iff, or_false] at hn
  rcases hn with rfl | rfl | rfl <;> omega
theorem read_txGood {x : DGood} (h : okGood x = true) : goodV (txGood x) = x ∧ goodOk (txGood x) = true ∧ (txGood x).size ≤ 1300 := by
  obtain ⟨hn, hr⟩ := okGood_nums h
  have hl : namedL 3 (txGood x).data.toList = some (x.fId.data.toList, [x.fCount, x.fLeast, x.fPrice]) := by
    unfold txGood namedL
    rw [ba_app, ba_app, ofL_data]
    rw [show x.fId.data.toList ++ (⟨#[32]⟩ : ByteArray).data.toList ++ textL [x.fCount, x.fLeast, x.fPrice] = x.fId.data.toList ++ 32 :: textL [x.fCount, x.fLeast, x.fPrice] by simp]
    rw [cuts_app (name_noblank hn).1, cuts_none (textL_noblank hr)]
    simp only
    rw [list_text hr (by simp)]
    rfl
  have ho : goodO (txGood x) = some x := by
    unfold goodO
    rw [hl]
    simp only [ofL_self]
    exact if_pos h
  refine ⟨by unfold goodV; rw [ho]; rfl, by unfold goodOk; rw [ho]; rfl, ?_⟩
  unfold txGood
  rw [ba_app_size, ba_app_size, ofL_size]
  have h1 := good_name10 hn
  have h2 := textL_len hr (by simp)
  show _ + 1 + _ ≤ _
  omega
set_option maxRecDepth 100000 in
set_option maxHeartbeats 2000000 in
theorem i_GoodText_yes (x : DGood) (w : World) (hok : okGood x = true) (hs : x.fId.size ≤ maxLen) (hL : LibW w) :
    Calls Tryz.prog 15 #[.agg #[.string x.fId, .int .i64 x.fCount, .int .i64 x.fLeast, .int .i64 x.fPrice]] w fun e w' => e = .returned (.string (txGood x)) ∧ Below w.heap.size w w' := by
  have hV := fun W => i_validGood x W hs
  rw [hok] at hV
  obtain ⟨hn, hnr⟩ := okGood_nums hok
  have h10 := good_name10 hn
  have HC : Hid (∀ W A c, Rd intE W A 3 [x.fCount, x.fLeast, x.fPrice] → LibW W → Calls Tryz.prog 29 #[.string x.fId, .slice A 3 c] W fun e w' => e = .returned (.string (txGood x)) ∧ Below W.heap.size W w') := Lib.hid (fun W A c h1 h2 => i_named x.fId A 3 c _ W (by omega) h1 (by omega) hnr h2)
  have hR := range_new w #[.string x.fId, .int .i64 x.fCount, .int .i64 x.fLeast, .int .i64 x.fPrice] 27
  have hb0 : Below w.heap.size w (w.alloc (.cells #[.string x.fId, .int .i64 x.fCount, .int .i64 x.fLeast, .int .i64 x.fPrice] 27)) := (Below.refl _ _).alloc (Nat.le_refl _) _
  obtain ⟨W0, hW0⟩ : ∃ W0, w.alloc (.cells #[.string x.fId, .int .i64 x.fCount, .int .i64 x.fLeast, .int .i64 x.fPrice] 27) = W0 := ⟨_, rfl⟩
  rw [hW0] at hR hb0
  have hx0 := hR 0 _ rfl
  have hx1 := hR 1 _ rfl
  have hx2 := hR 2 _ rfl
  have hx3 := hR 3 _ rfl
  simp only [Nat.zero_add] at hx0 hx1 hx2 hx3
  clear hR hn hnr hok
  go_enter Tryz.func15, Tryz.ntmps15
  go_wp2_with fail
  try rw [hW0]
  clear hW0
  refine (hV _).mono ?_
  rintro e w1 ⟨rfl, hb1⟩
  replace hx0 := cell_later hb1 hx0
  replace hx1 := cell_later hb1 hx1
  replace hx2 := cell_later hb1 hx2
  replace hx3 := cell_later hb1 hx3
  replace hb0 := hb0.trans (hb1.mono hb0.size)
  clear hV hb1
  have hlit : Rd intE (w1.alloc (.cells #[.int .i64 x.fCount, .int .i64 x.fLeast, .int .i64 x.fPrice] 2)) (some ⟨w1.heap.size, 0, none⟩) 3 [x.fCount, x.fLeast, x.fPrice] := Rd.lit1 intE rfl rfl rfl
  have hb2 : Below w.heap.size w (w1.alloc (.cells #[.int .i64 x.fCount, .int .i64 x.fLeast, .int .i64 x.fPrice] 2)) := hb0.alloc hb0.size _
  go_wp2_with fail
  refine (HC.out _ _ _ hlit (hL.below hb2)).mono ?_
  rintro e w3 ⟨rfl, hb3⟩
  clear hlit HC
  go_wp2
  go_ret
  exact ⟨rfl, hb2.trans (hb3.mono hb2.size)⟩
end Go.Proofs.YtfogginmdglagaaGreatDoor
