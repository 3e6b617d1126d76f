/- Costs and prices of quotes: the walks of the small functions, both sides. -/
import Derived.Test.YtbfmfiaenihmoaaGreatDoorRows
import Derived.Test.YtbfmfiaenihmoaaGreatDoorValQuote
import Derived.Test.YtbfmfiaenihmoaaGreatDoorIReads
namespace Go.Proofs.YtbfmfiaenihmoaaGreatDoor
set_option linter.unusedVariables false
set_option linter.unusedSimpArgs false
set_option linter.unusedSectionVars false
open Go.RowKit

def costQ (x : DQuote) : Int := x.fHours * x.fRate + x.fMaterial
def priceQ (x : DQuote) : Int := (costQ x * (1000 + x.fMargin) + 999) / 1000
structure QB (x : DQuote) : Prop where
  h0 : 0 ≤ x.fHours
  h1 : x.fHours ≤ 1000
  r0 : 0 ≤ x.fRate
  r1 : x.fRate ≤ 20000
  m0 : 0 ≤ x.fMaterial
  m1 : x.fMaterial ≤ 10000000
  g0 : 0 ≤ x.fMargin
  g1 : x.fMargin ≤ 5000
theorem QB.of {x : DQuote} (h : okQuote x = true) : QB x := by
  unfold okQuote inB at h
  simp only [Bool.and_eq_true, decide_eq_true_eq] at h
  exact ⟨by omega, by omega, by omega, by omega, by omega, by omega, by omega, by omega⟩
theorem mul_range {a b A B : Int} (a0 : 0 ≤ a) (a1 : a ≤ A) (b0 : 0 ≤ b) (b1 : b ≤ B) : 0 ≤ a * b ∧ a * b ≤ A * B :=
  ⟨Int.mul_nonneg a0 b0, Int.le_trans (Int.mul_le_mul_of_nonneg_right a1 b0) (Int.mul_le_mul_of_nonneg_left b1 (by omega))⟩
theorem QB.hr {x : DQuote} (h : QB x) : 0 ≤ x.fHours * x.fRate ∧ x.fHours * x.fRate ≤ 20000000 := mul_range h.h0 h.h1 h.r0 h.r1
theorem QB.cost {x : DQuote} (h : QB x) : 0 ≤ costQ x ∧ costQ x ≤ 30000000 := by
  have := h.hr
  have := h.m0
  have := h.m1
  unfold costQ
  omega
theorem QB.cg {x : DQuote} (h : QB x) : 0 ≤ costQ x * (1000 + x.fMargin) ∧ costQ x * (1000 + x.fMargin) ≤ 180000000000 := by
  have h1 := h.cost
  have h2 := h.g0
  have h3 := h.g1
  exact mul_range h1.1 h1.2 (by omega) (show 1000 + x.fMargin ≤ 6000 by omega)
theorem QB.price {x : DQuote} (h : QB x) : 0 ≤ priceQ x ∧ priceQ x ≤ 180000001 := by
  have := h.cg
  unfold priceQ
  omega
theorem wid {n : Int} (h : -9223372036854775808 ≤ n ∧ n ≤ 9223372036854775807) : IntKind.i64.wrap n = n := by rw [IntKind.wrap_i64]; omega
theorem price_raw {C g : Int} (h1 : 0 ≤ C * (1000 + g) ∧ C * (1000 + g) ≤ 180000000000) (h2 : 0 ≤ g) (h3 : g ≤ 5000) :
    IntKind.i64.wrap ((IntKind.i64.wrap (IntKind.i64.wrap (C * IntKind.i64.wrap (1000 + g)) + 999)).tdiv 1000) = (C * (1000 + g) + 999) / 1000 := by
  rw [wid (n := 1000 + g) (by omega), wid (n := C * (1000 + g)) (by omega), wid (n := C * (1000 + g) + 999) (by omega), Int.tdiv_eq_ediv_of_nonneg (by omega), wid (by omega)]
set_option maxRecDepth 100000 in
set_option maxHeartbeats 1000000 in
theorem i_cost (x : DQuote) (w : World) (h : QB x) :
    Calls Tryz.prog 22 #[.agg #[.string x.fId, .int .i64 x.fHours, .int .i64 x.fRate, .int .i64 x.fMaterial, .int .i64 x.fMargin]] w fun e w' => e = .returned (.int .i64 (costQ x)) ∧ Below w.heap.size w w' := by
  have h1 := h.hr
  have h2 := h.m0
  have h3 := h.m1
  have hR := range_new w #[.string x.fId, .int .i64 x.fHours, .int .i64 x.fRate, .int .i64 x.fMaterial, .int .i64 x.fMargin] 32
  have hb0 : Below w.heap.size w (w.alloc (.cells #[.string x.fId, .int .i64 x.fHours, .int .i64 x.fRate, .int .i64 x.fMaterial, .int .i64 x.fMargin] 32)) := (Below.refl _ _).alloc (Nat.le_refl _) _
  go_enter Tryz.func22, Tryz.ntmps22
  go_wp2
  go_ret
  exact ⟨rfl, hb0⟩
set_option maxRecDepth 100000 in
set_option maxHeartbeats 1000000 in
theorem i_price (x : DQuote) (w : World) (h : QB x) :
    Calls Tryz.prog 19 #[.agg #[.string x.fId, .int .i64 x.fHours, .int .i64 x.fRate, .int .i64 x.fMaterial, .int .i64 x.fMargin]] w fun e w' => e = .returned (.int .i64 (priceQ x)) ∧ Below w.heap.size w w' := by
  have h1 := h.cg
  have h2 := h.g0
  have h3 := h.g1
  have HC : Hid (∀ W, Calls Tryz.prog 22 #[.agg #[.string x.fId, .int .i64 x.fHours, .int .i64 x.fRate, .int .i64 x.fMaterial, .int .i64 x.fMargin]] W fun e w' => e = .returned (.int .i64 (costQ x)) ∧ Below W.heap.size W w') := Lib.hid fun W => i_cost x W h
  have E : Hid (priceQ x = (costQ x * (1000 + x.fMargin) + 999) / 1000) := Lib.hid rfl
  obtain ⟨C, hC⟩ : ∃ C, costQ x = C := ⟨_, rfl⟩
  rw [hC] at h1 HC E
  have H1 := Lib.hid h1
  clear hC h h1
  have hR := range_new w #[.string x.fId, .int .i64 x.fHours, .int .i64 x.fRate, .int .i64 x.fMaterial, .int .i64 x.fMargin] 32
  have hb0 : Below w.heap.size w (w.alloc (.cells #[.string x.fId, .int .i64 x.fHours, .int .i64 x.fRate, .int .i64 x.fMaterial, .int .i64 x.fMargin] 32)) := (Below.refl _ _).alloc (Nat.le_refl _) _
  obtain ⟨W0, hW0⟩ : ∃ W0, w.alloc (.cells #[.string x.fId, .int .i64 x.fHours, .int .i64 x.fRate, .int .i64 x.fMaterial, .int .i64 x.fMargin] 32) = W0 := ⟨_, rfl⟩
  rw [hW0] at hR hb0
  have hx0 := hR 0 _ rfl
  have hx1 := hR 1 _ rfl
  have hx2 := hR 2 _ rfl
  have hx3 := hR 3 _ rfl
  have hx4 := hR 4 _ rfl
  simp only [Nat.zero_add] at hx0 hx1 hx2 hx3 hx4
  clear hR
  go_enter Tryz.func19, Tryz.ntmps19
  go_wp2_with fail
  try rw [hW0]
  clear hW0
  go_region_held3 (fun w' => (w'.cell? ⟨w.heap.size, 0, none⟩ = some (.string x.fId) ∧ w'.cell? ⟨w.heap.size, 1, none⟩ = some (.int .i64 x.fHours) ∧ w'.cell? ⟨w.heap.size, 2, none⟩ = some (.int .i64 x.fRate) ∧ w'.cell? ⟨w.heap.size, 3, none⟩ = some (.int .i64 x.fMaterial) ∧ w'.cell? ⟨w.heap.size, 4, none⟩ = some (.int .i64 x.fMargin)) ∧ Below w.heap.size w w')
    (first | exact ⟨⟨hx0, hx1, hx2, hx3, hx4⟩, hb0.drew⟩
           | (go_split_ands; exact ⟨⟨cell_later hb2 (by assumption), cell_later hb2 (by assumption), cell_later hb2 (by assumption), cell_later hb2 (by assumption), cell_later hb2 (by assumption)⟩, Below.trans (by assumption) (hb2.mono (Below.size (by assumption)))⟩))
    (first | (go_at_call 22; go_split_ands; refine (HC.out _).mono ?_; rintro e w2 ⟨rfl, hb2⟩))
  rename_i hh
  obtain ⟨_, hbE⟩ := hh
  go_wp2
  go_ret
  exact ⟨ret_int (by rw [E.out]; exact price_raw H1.out h2 h3), hbE⟩
set_option maxHeartbeats 1000000 in
theorem i_CostOf (x : DQuote) (w : World) (hok : okQuote x = true) (hs : x.fId.size ≤ maxLen) :
    Calls Tryz.prog 9 #[.agg #[.string x.fId, .int .i64 x.fHours, .int .i64 x.fRate, .int .i64 x.fMaterial, .int .i64 x.fMargin]] w fun e w' => e = .returned (.tuple #[.int .i64 (costQ x), .int .i64 0]) ∧ Below w.heap.size w w' := by
  have hV := fun W => i_validQuote x W hs
  rw [hok] at hV
  have hC := fun W => i_cost x W (QB.of hok)
  have hR := range_new w #[.string x.fId, .int .i64 x.fHours, .int .i64 x.fRate, .int .i64 x.fMaterial, .int .i64 x.fMargin] 32
  have hb0 : Below w.heap.size w (w.alloc (.cells #[.string x.fId, .int .i64 x.fHours, .int .i64 x.fRate, .int .i64 x.fMaterial, .int .i64 x.fMargin] 32)) := (Below.refl _ _).alloc (Nat.le_refl _) _
  obtain ⟨W0, hW0⟩ : ∃ W0, w.alloc (.cells #[.string x.fId, .int .i64 x.fHours, .int .i64 x.fRate, .int .i64 x.fMaterial, .int .i64 x.fMargin] 32) = W0 := ⟨_, rfl⟩
  rw [hW0] at hR hb0
  have hx0 := hR 0 _ rfl
  have hx1 := hR 1 _ rfl
  have hx2 := hR 2 _ rfl
  have hx3 := hR 3 _ rfl
  have hx4 := hR 4 _ rfl
  simp only [Nat.zero_add] at hx0 hx1 hx2 hx3 hx4
  clear hR
  go_enter Tryz.func9, Tryz.ntmps9
  go_wp2_with fail
  try rw [hW0]
  clear hW0
  refine (hV _).mono ?_
  rintro e w1 ⟨rfl, hb1⟩
  replace hx0 := cell_later hb1 hx0
  replace hx1 := cell_later hb1 hx1
  replace hx2 := cell_later hb1 hx2
  replace hx3 := cell_later hb1 hx3
  replace hx4 := cell_later hb1 hx4
  replace hb0 := hb0.trans (hb1.mono hb0.size)
  clear hV hb1
  go_wp2_with fail
  refine (hC _).mono ?_
  rintro e w2 ⟨rfl, hb2⟩
  clear hC
  go_wp2
  go_ret2
  exact ⟨rfl, hb0.trans (hb2.mono hb0.size)⟩
set_option maxHeartbeats 1000000 in
theorem i_PriceOf (x : DQuote) (w : World) (hok : okQuote x = true) (hs : x.fId.size ≤ maxLen) :
    Calls Tryz.prog 10 #[.agg #[.string x.fId, .int .i64 x.fHours, .int .i64 x.fRate, .int .i64 x.fMaterial, .int .i64 x.fMargin]] w fun e w' => e = .returned (.tuple #[.int .i64 (priceQ x), .int .i64 0]) ∧ Below w.heap.size w w' := by
  have hV := fun W => i_validQuote x W hs
  rw [hok] at hV
  have hC := fun W => i_price x W (QB.of hok)
  have hR := range_new w #[.string x.fId, .int .i64 x.fHours, .int .i64 x.fRate, .int .i64 x.fMaterial, .int .i64 x.fMargin] 32
  have hb0 : Below w.heap.size w (w.alloc (.cells #[.string x.fId, .int .i64 x.fHours, .int .i64 x.fRate, .int .i64 x.fMaterial, .int .i64 x.fMargin] 32)) := (Below.refl _ _).alloc (Nat.le_refl _) _
  obtain ⟨W0, hW0⟩ : ∃ W0, w.alloc (.cells #[.string x.fId, .int .i64 x.fHours, .int .i64 x.fRate, .int .i64 x.fMaterial, .int .i64 x.fMargin] 32) = W0 := ⟨_, rfl⟩
  rw [hW0] at hR hb0
  have hx0 := hR 0 _ rfl
  have hx1 := hR 1 _ rfl
  have hx2 := hR 2 _ rfl
  have hx3 := hR 3 _ rfl
  have hx4 := hR 4 _ rfl
  simp only [Nat.zero_add] at hx0 hx1 hx2 hx3 hx4
  clear hR
  go_enter Tryz.func10, Tryz.ntmps10
  go_wp2_with fail
  try rw [hW0]
  clear hW0
  refine (hV _).mono ?_
  rintro e w1 ⟨rfl, hb1⟩
  replace hx0 := cell_later hb1 hx0
  replace hx1 := cell_later hb1 hx1
  replace hx2 := cell_later hb1 hx2
  replace hx3 := cell_later hb1 hx3
  replace hx4 := cell_later hb1 hx4
  replace hb0 := hb0.trans (hb1.mono hb0.size)
  clear hV hb1
  go_wp2_with fail
  refine (hC _).mono ?_
  rintro e w2 ⟨rfl, hb2⟩
  clear hC
  go_wp2
  go_ret2
  exact ⟨rfl, hb0.trans (hb2.mono hb0.size)⟩
set_option maxRecDepth 100000 in
set_option maxHeartbeats 1000000 in
theorem s_l24Cost (b off : Nat) (x : DQuote) (w : World) (hc : w.rangeAt b off (quoteE.cells x)) (h : QB x) :
    Calls Tryz.prog 40 #[.pointer (some ⟨b, off, none⟩)] w fun e w' => e = .returned (.int .i64 (costQ x)) ∧ Below w.heap.size w w' := by
  have h1 := h.hr
  have h2 := h.m0
  have h3 := h.m1
  have hc1 := hc 1 _ rfl
  have hc2 := hc 2 _ rfl
  have hc3 := hc 3 _ rfl
  clear hc
  go_enter Tryz.func40, Tryz.ntmps40
  go_wp2_with fail
  go_quiet (fail)
  go_wp2
  go_ret
  exact ⟨rfl, below_drewN (Below.refl _ _) _⟩
set_option maxRecDepth 100000 in
set_option maxHeartbeats 1000000 in
theorem s_l24Price (b off : Nat) (x : DQuote) (w : World) (hc : w.rangeAt b off (quoteE.cells x)) (h : QB x) :
    Calls Tryz.prog 28 #[.pointer (some ⟨b, off, none⟩)] w fun e w' => e = .returned (.int .i64 (priceQ x)) ∧ Below w.heap.size w w' := by
  have h1 := h.cg
  have h2 := h.g0
  have h3 := h.g1
  have HH := Lib.hid h
  have HR := Lib.hid (fun (W : World) (hb : Below w.heap.size w W) => range_below (B := 0) hc hb)
  have HC : Hid (∀ W, Below w.heap.size w W → Calls Tryz.prog 40 #[.pointer (some ⟨b, off, none⟩)] W fun e w' => e = .returned (.int .i64 (costQ x)) ∧ Below W.heap.size W w') := Lib.hid fun W hb => s_l24Cost b off x W (HR.out W hb) HH.out
  have E : Hid (priceQ x = (costQ x * (1000 + x.fMargin) + 999) / 1000) := Lib.hid rfl
  obtain ⟨C, hC⟩ : ∃ C, costQ x = C := ⟨_, rfl⟩
  rw [hC] at h1 HC E
  have H1 := Lib.hid h1
  have hx4 := hc 4 _ rfl
  have hb0 := Below.refl w.heap.size w
  clear hC h h1 hc HH HR
  go_enter Tryz.func28, Tryz.ntmps28
  go_wp2_with fail
  go_region_held3 (fun w' => w'.cell? ⟨b, off + 4, none⟩ = some (.int .i64 x.fMargin) ∧ Below w.heap.size w w')
    (first | exact ⟨hx4, hb0.drew⟩
           | (go_split_ands; exact ⟨cell_later hb2 (by assumption), Below.trans (by assumption) (hb2.mono (Below.size (by assumption)))⟩))
    (first | (go_at_call 40; go_split_ands; refine (HC.out _ (by assumption)).mono ?_; rintro e w2 ⟨rfl, hb2⟩))
  rename_i hh
  obtain ⟨_, hbE⟩ := hh
  go_wp2
  go_ret
  exact ⟨ret_int (by rw [E.out]; exact price_raw H1.out h2 h3), hbE⟩
def pricV (x : DQuote) : Int := if okQuote x then priceQ x else 0
def pricC (x : DQuote) : Int := if okQuote x then 0 else 1
theorem pric_no {x : DQuote} (h : okQuote x = false) : (0 : Int) = pricV x ∧ (1 : Int) = pricC x := by unfold pricV pricC; rw [h]; exact ⟨rfl, rfl⟩
theorem pric_yes {x : DQuote} (h : okQuote x = true) : priceQ x = pricV x ∧ (0 : Int) = pricC x := by unfold pricV pricC; rw [h]; exact ⟨rfl, rfl⟩
theorem ret_ii {a b c d : Int} (h : a = c ∧ b = d) : Ending.returned (.tuple #[.int .i64 a, .int .i64 b]) = .returned (.tuple #[.int .i64 c, .int .i64 d]) := by rw [h.1, h.2]
set_option maxHeartbeats 1000000 in
theorem s_PriceOf (x : DQuote) (w : World) (hs : x.fId.size ≤ maxLen) :
    Calls Tryz.prog 16 #[.agg #[.string x.fId, .int .i64 x.fHours, .int .i64 x.fRate, .int .i64 x.fMaterial, .int .i64 x.fMargin]] w fun e w' => e = .returned (.tuple #[.int .i64 (pricV x), .int .i64 (pricC x)]) ∧ Below w.heap.size w w' := by
  have hR := range_new w #[.string x.fId, .int .i64 x.fHours, .int .i64 x.fRate, .int .i64 x.fMaterial, .int .i64 x.fMargin] 32
  have hb0 : Below w.heap.size w (w.alloc (.cells #[.string x.fId, .int .i64 x.fHours, .int .i64 x.fRate, .int .i64 x.fMaterial, .int .i64 x.fMargin] 32)) := (Below.refl _ _).alloc (Nat.le_refl _) _
  obtain ⟨W0, hW0⟩ : ∃ W0, w.alloc (.cells #[.string x.fId, .int .i64 x.fHours, .int .i64 x.fRate, .int .i64 x.fMaterial, .int .i64 x.fMargin] 32) = W0 := ⟨_, rfl⟩
  rw [hW0] at hR hb0
  have HR := Lib.hid (show W0.rangeAt w.heap.size 0 (quoteE.cells x) from hR)
  clear hR
  go_enter Tryz.func16, Tryz.ntmps16
  go_wp2_with fail
  try rw [hW0]
  clear hW0
  refine (s_l24One _ 0 x W0 hs HR.out).mono ?_
  rintro e w' ⟨rfl, rfl⟩
  rcases hok : okQuote x with _ | _
  · have E := Lib.hid (pric_no hok)
    clear hok
    go_wp2
    go_ret2
    exact ⟨ret_ii E.out, hb0⟩
  · have E := Lib.hid (pric_yes hok)
    have hQ := QB.of hok
    clear hok
    go_wp2_with fail
    refine (s_l24Price _ 0 x _ HR.out hQ).mono ?_
    rintro e w2 ⟨rfl, hb2⟩
    go_wp2
    go_ret2
    exact ⟨ret_ii E.out, hb0.trans (hb2.mono hb0.size)⟩
end Go.Proofs.YtbfmfiaenihmoaaGreatDoor
