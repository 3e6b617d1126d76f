/- The greatest margin and the most hours for a price. -/
import Derived.Test.YtbfmfiaenihmoaaGreatDoorRows
import Derived.Test.YtbfmfiaenihmoaaGreatDoorPriceI
import Derived.Test.YtbfmfiaenihmoaaGreatDoorSrc
namespace Go.Proofs.YtbfmfiaenihmoaaGreatDoor
set_option linter.unusedVariables false
set_option linter.unusedSimpArgs false
set_option linter.unusedSectionVars false
open Go.RowKit

def xMar (x : DQuote) (m : Int) : DQuote := ⟨x.fId, x.fHours, x.fRate, x.fMaterial, m⟩
def xHou (x : DQuote) (m : Int) : DQuote := ⟨x.fId, m, x.fRate, x.fMaterial, x.fMargin⟩
/-- the greatest m up to M with f m ≤ p, or none -/
def MostR (f : Int → Int) (M p : Int) (w : World) (e : Ending) (w' : World) : Prop :=
  ((∃ m, 0 ≤ m ∧ m ≤ M ∧ f m ≤ p ∧ (∀ m', m < m' → m' ≤ M → p < f m') ∧ e = .returned (.tuple #[.int .i64 m, .int .i64 0])) ∨
    ((∀ m', 0 ≤ m' → m' ≤ M → p < f m') ∧ e = .returned (.tuple #[.int .i64 0, .int .i64 3]))) ∧ Below w.heap.size w w'
def cellN : Option Value → Nat
  | some (.int _ m) => (m + 1).toNat
  | _ => 0
def XCells (b : Nat) (y : DQuote) (W : World) : Prop := W.rangeAt b 0 (quoteE.cells y) ∧ ∀ j, W.frozen? ⟨b, j, none⟩ = false
theorem XCells.below {b : Nat} {y : DQuote} {W W' : World} (h : XCells b y W) (hb : Below W.heap.size W W') : XCells b y W' :=
  ⟨range_below (B := 0) h.1 hb, fun j => free_later (h.2 j) (show b < W.heap.size from World.block_lt_of_cell? W ⟨b, 0 + 0, none⟩ (h.1 0 _ rfl)) hb⟩
theorem XCells.setMarginFor {b : Nat} {x : DQuote} {m : Int} {W : World} (h : XCells b (xMar x m) W) (m' : Int) : XCells b (xMar x m') (W.setCell ⟨b, 4, none⟩ (.int .i64 m')) := by
  refine ⟨fun j v hv => ?_, fun j => by rw [World.frozen?_setCell]; exact h.2 j⟩
  match j, hv with
  | 0, hv => exact (World.cell?_setCell_other _ _ _ _ (by simp)).trans (h.1 0 v hv)
  | 1, hv => exact (World.cell?_setCell_other _ _ _ _ (by simp)).trans (h.1 1 v hv)
  | 2, hv => exact (World.cell?_setCell_other _ _ _ _ (by simp)).trans (h.1 2 v hv)
  | 3, hv => exact (World.cell?_setCell_other _ _ _ _ (by simp)).trans (h.1 3 v hv)
  | 4, hv =>
    obtain rfl : v = .int .i64 m' := (Option.some.inj hv).symm
    exact World.cell?_setCell_same _ _ _ (h.1 4 _ rfl)

set_option maxRecDepth 100000 in
set_option maxHeartbeats 2000000 in
theorem i_MarginFor (x : DQuote) (p : Int) (w : World) (hok : okQuote x = true) (hs : x.fId.size ≤ maxLen) (hp0 : 0 ≤ p) (hp1 : p ≤ 1000000000000) :
    Calls Tryz.prog 14 #[.agg #[.string x.fId, .int .i64 x.fHours, .int .i64 x.fRate, .int .i64 x.fMaterial, .int .i64 x.fMargin], .int .i64 p] w (MostR (fun m => priceQ (xMar x m)) 5000 p w) := by
  have hV := fun W => i_validQuote x W hs
  rw [hok] at hV
  have hin : inB p 0 1000000000000 = true := inB_true hp0 hp1
  have hI := fun W => i_within p 0 1000000000000 W
  rw [hin] at hI
  have HQ := Lib.hid (QB.of hok)
  have hR := range_new w #[.string x.fId, .int .i64 x.fHours, .int .i64 x.fRate, .int .i64 x.fMaterial, .int .i64 x.fMargin] 32
  have hF := fun j => new_free w #[.string x.fId, .int .i64 x.fHours, .int .i64 x.fRate, .int .i64 x.fMaterial, .int .i64 x.fMargin] 32 j
  have hb0 : Below w.heap.size w (w.alloc (.cells #[.string x.fId, .int .i64 x.fHours, .int .i64 x.fRate, .int .i64 x.fMaterial, .int .i64 x.fMargin] 32)) := (Below.refl _ _).alloc (Nat.le_refl _) _
  obtain ⟨W0, hW0⟩ : ∃ W0, w.alloc (.cells #[.string x.fId, .int .i64 x.fHours, .int .i64 x.fRate, .int .i64 x.fMaterial, .int .i64 x.fMargin] 32) = W0 := ⟨_, rfl⟩
  rw [hW0] at hR hb0 hF
  have HX := Lib.hid (show XCells w.heap.size (xMar x x.fMargin) W0 from ⟨hR, hF⟩)
  have hx0 := hR 0 _ rfl
  have hx1 := hR 1 _ rfl
  have hx2 := hR 2 _ rfl
  have hx3 := hR 3 _ rfl
  have hx4 := hR 4 _ rfl
  simp only [Nat.zero_add] at hx0 hx1 hx2 hx3 hx4
  clear hR hF hin hok
  go_enter Tryz.func14, Tryz.ntmps14
  go_wp2_with fail
  try rw [hW0]
  clear hW0
  refine (hV _).mono ?_
  rintro e w1 ⟨rfl, hb1⟩
  replace HX := Lib.hid (HX.out.below hb1)
  replace hb0 := hb0.trans (hb1.mono hb0.size)
  clear hV hb1 hx0 hx1 hx2 hx3 hx4
  go_wp2_with fail
  refine (hI _).mono ?_
  rintro e w2 ⟨rfl, rfl⟩
  clear hI
  have hx4 := HX.out.1 4 _ rfl
  have hfk := HX.out.2 4
  rw [Nat.zero_add] at hx4
  have HS := Lib.hid (HX.out.setMarginFor 5000)
  have hbS := hb0.setCell (p := ⟨w.heap.size, 4, none⟩) (Nat.le_refl _) (.int .i64 5000)
  go_wp2_with fail
  clear hx4 hfk
  go_loopw [14] (fun _ wr => ∃ m : Int, -1 ≤ m ∧ m ≤ 5000 ∧ Hid (XCells w.heap.size (xMar x m) wr) ∧ Below w.heap.size w wr ∧ Hid (∀ m', m < m' → m' ≤ 5000 → p < priceQ (xMar x m'))) (fun _ wr => cellN (wr.cell? ⟨w.heap.size, 4, none⟩))
  case atStart => exact ⟨5000, by omega, by omega, HS, hbS, Lib.hid fun m' h1 h2 => by omega⟩
  case round =>
    obtain ⟨m, hm0, hm1, HC, hb, HA⟩ := hrel
    have hc := HC.out.1
    have y0 := hc 0 _ rfl
    have y1 := hc 1 _ rfl
    have y2 := hc 2 _ rfl
    have y3 := hc 3 _ rfl
    have y4 := hc 4 _ rfl
    simp only [xMar, Nat.zero_add] at y0 y1 y2 y3 y4
    have yf := HC.out.2 4
    clear hc HX HS hbS hb0
    by_cases hm : 0 ≤ m
    · have hQ : QB (xMar x m) := by have h := HQ.out; exact ⟨h.h0, h.h1, h.r0, h.r1, h.m0, h.m1, hm, by show m ≤ _; omega⟩
      have hP : ∀ W, Calls Tryz.prog 19 #[.agg #[.string x.fId, .int .i64 x.fHours, .int .i64 x.fRate, .int .i64 x.fMaterial, .int .i64 m]] W fun e w' => e = .returned (.int .i64 (priceQ (xMar x m))) ∧ Below W.heap.size W w' := fun W => i_price (xMar x m) W hQ
      have HP := Lib.hid (show priceQ (xMar x m) = priceQ (xMar x m) from rfl)
      obtain ⟨P, hPP⟩ : ∃ P, priceQ (xMar x m) = P := ⟨_, rfl⟩
      have HPP := Lib.hid hPP
      rw [hPP] at hP
      clear hPP hQ HP
      go_wp2_with fail
      refine (hP _).mono ?_
      rintro e w3 ⟨rfl, hb3⟩
      have y4' := cell_later hb3 y4
      have yf' : w3.frozen? ⟨w.heap.size, 4, none⟩ = false := free_later yf (World.block_lt_of_cell? _ _ y4) hb3
      have hb' := hb.trans (hb3.mono hb.size)
      by_cases hle : P ≤ p
      · clear hP
        go_wp2
        go_ret2
        exact ⟨.inl ⟨m, hm, hm1, by show priceQ (xMar x m) ≤ p; rw [HPP.out]; exact hle, HA.out, rfl⟩, hb'⟩
      · have HN := Lib.hid ((HC.out.below hb3).setMarginFor (m - 1))
        have hbN := hb'.setCell (p := ⟨w.heap.size, 4, none⟩) (Nat.le_refl _) (.int .i64 (m - 1))
        have HB := Lib.hid (show ∀ m', m - 1 < m' → m' ≤ 5000 → p < priceQ (xMar x m') from fun m' h1 h2 => by
          rcases Int.lt_or_eq_of_le (show m ≤ m' by omega) with h3 | h3
          · exact HA.out m' h3 h2
          · rw [← h3, HPP.out]; omega)
        have hms : (w3.setCell ⟨w.heap.size, 4, none⟩ (.int .i64 (m - 1))).cell? ⟨w.heap.size, 4, none⟩ = some (.int .i64 (m - 1)) := World.cell?_setCell_same _ _ _ y4'
        clear hP
        go_wp2
        first | (refine ⟨⟨m - 1, by omega, by omega, HN, hbN, HB⟩, ?_⟩; (rw [hms, y4]; show (m - 1 + 1).toNat < (m + 1).toNat; omega)) | (go_roundw; (case rel => first | exact ⟨m - 1, by omega, by omega, HN, hbN, HB⟩ | ((try refine ⟨trivial, ?_⟩); (repeat apply Exists.intro); exact ⟨⟨m - 1, by omega, by omega, HN, hbN, HB⟩, rfl⟩)); (case measure => (rw [hms, y4]; show (m - 1 + 1).toNat < (m + 1).toNat; omega)))
    · obtain rfl : m = -1 := by omega
      go_wp2
      go_ret2
      exact ⟨.inr ⟨fun m' h1 h2 => HA.out m' (by omega) h2, rfl⟩, hb⟩

theorem XCells.setHoursFor {b : Nat} {x : DQuote} {m : Int} {W : World} (h : XCells b (xHou x m) W) (m' : Int) : XCells b (xHou x m') (W.setCell ⟨b, 1, none⟩ (.int .i64 m')) := by
  refine ⟨fun j v hv => ?_, fun j => by rw [World.frozen?_setCell]; exact h.2 j⟩
  match j, hv with
  | 0, hv => exact (World.cell?_setCell_other _ _ _ _ (by simp)).trans (h.1 0 v hv)
  | 1, hv =>
    obtain rfl : v = .int .i64 m' := (Option.some.inj hv).symm
    exact World.cell?_setCell_same _ _ _ (h.1 1 _ rfl)
  | 2, hv => exact (World.cell?_setCell_other _ _ _ _ (by simp)).trans (h.1 2 v hv)
  | 3, hv => exact (World.cell?_setCell_other _ _ _ _ (by simp)).trans (h.1 3 v hv)
  | 4, hv => exact (World.cell?_setCell_other _ _ _ _ (by simp)).trans (h.1 4 v hv)

set_option maxRecDepth 100000 in
set_option maxHeartbeats 2000000 in
theorem i_HoursFor (x : DQuote) (p : Int) (w : World) (hok : okQuote x = true) (hs : x.fId.size ≤ maxLen) (hp0 : 0 ≤ p) (hp1 : p ≤ 1000000000000) :
    Calls Tryz.prog 15 #[.agg #[.string x.fId, .int .i64 x.fHours, .int .i64 x.fRate, .int .i64 x.fMaterial, .int .i64 x.fMargin], .int .i64 p] w (MostR (fun m => priceQ (xHou x m)) 1000 p w) := by
  have hV := fun W => i_validQuote x W hs
  rw [hok] at hV
  have hin : inB p 0 1000000000000 = true := inB_true hp0 hp1
  have hI := fun W => i_within p 0 1000000000000 W
  rw [hin] at hI
  have HQ := Lib.hid (QB.of hok)
  have hR := range_new w #[.string x.fId, .int .i64 x.fHours, .int .i64 x.fRate, .int .i64 x.fMaterial, .int .i64 x.fMargin] 32
  have hF := fun j => new_free w #[.string x.fId, .int .i64 x.fHours, .int .i64 x.fRate, .int .i64 x.fMaterial, .int .i64 x.fMargin] 32 j
  have hb0 : Below w.heap.size w (w.alloc (.cells #[.string x.fId, .int .i64 x.fHours, .int .i64 x.fRate, .int .i64 x.fMaterial, .int .i64 x.fMargin] 32)) := (Below.refl _ _).alloc (Nat.le_refl _) _
  obtain ⟨W0, hW0⟩ : ∃ W0, w.alloc (.cells #[.string x.fId, .int .i64 x.fHours, .int .i64 x.fRate, .int .i64 x.fMaterial, .int .i64 x.fMargin] 32) = W0 := ⟨_, rfl⟩
  rw [hW0] at hR hb0 hF
  have HX := Lib.hid (show XCells w.heap.size (xHou x x.fHours) W0 from ⟨hR, hF⟩)
  have hx0 := hR 0 _ rfl
  have hx1 := hR 1 _ rfl
  have hx2 := hR 2 _ rfl
  have hx3 := hR 3 _ rfl
  have hx4 := hR 4 _ rfl
  simp only [Nat.zero_add] at hx0 hx1 hx2 hx3 hx4
  clear hR hF hin hok
  go_enter Tryz.func15, Tryz.ntmps15
  go_wp2_with fail
  try rw [hW0]
  clear hW0
  refine (hV _).mono ?_
  rintro e w1 ⟨rfl, hb1⟩
  replace HX := Lib.hid (HX.out.below hb1)
  replace hb0 := hb0.trans (hb1.mono hb0.size)
  clear hV hb1 hx0 hx1 hx2 hx3 hx4
  go_wp2_with fail
  refine (hI _).mono ?_
  rintro e w2 ⟨rfl, rfl⟩
  clear hI
  have hx1 := HX.out.1 1 _ rfl
  have hfk := HX.out.2 1
  rw [Nat.zero_add] at hx1
  have HS := Lib.hid (HX.out.setHoursFor 1000)
  have hbS := hb0.setCell (p := ⟨w.heap.size, 1, none⟩) (Nat.le_refl _) (.int .i64 1000)
  go_wp2_with fail
  clear hx1 hfk
  go_loopw [14] (fun _ wr => ∃ m : Int, -1 ≤ m ∧ m ≤ 1000 ∧ Hid (XCells w.heap.size (xHou x m) wr) ∧ Below w.heap.size w wr ∧ Hid (∀ m', m < m' → m' ≤ 1000 → p < priceQ (xHou x m'))) (fun _ wr => cellN (wr.cell? ⟨w.heap.size, 1, none⟩))
  case atStart => exact ⟨1000, by omega, by omega, HS, hbS, Lib.hid fun m' h1 h2 => by omega⟩
  case round =>
    obtain ⟨m, hm0, hm1, HC, hb, HA⟩ := hrel
    have hc := HC.out.1
    have y0 := hc 0 _ rfl
    have y1 := hc 1 _ rfl
    have y2 := hc 2 _ rfl
    have y3 := hc 3 _ rfl
    have y4 := hc 4 _ rfl
    simp only [xHou, Nat.zero_add] at y0 y1 y2 y3 y4
    have yf := HC.out.2 1
    clear hc HX HS hbS hb0
    by_cases hm : 0 ≤ m
    · have hQ : QB (xHou x m) := by have h := HQ.out; exact ⟨hm, by show m ≤ _; omega, h.r0, h.r1, h.m0, h.m1, h.g0, h.g1⟩
      have hP : ∀ W, Calls Tryz.prog 19 #[.agg #[.string x.fId, .int .i64 m, .int .i64 x.fRate, .int .i64 x.fMaterial, .int .i64 x.fMargin]] W fun e w' => e = .returned (.int .i64 (priceQ (xHou x m))) ∧ Below W.heap.size W w' := fun W => i_price (xHou x m) W hQ
      have HP := Lib.hid (show priceQ (xHou x m) = priceQ (xHou x m) from rfl)
      obtain ⟨P, hPP⟩ : ∃ P, priceQ (xHou x m) = P := ⟨_, rfl⟩
      have HPP := Lib.hid hPP
      rw [hPP] at hP
      clear hPP hQ HP
      go_wp2_with fail
      refine (hP _).mono ?_
      rintro e w3 ⟨rfl, hb3⟩
      have y1' := cell_later hb3 y1
      have yf' : w3.frozen? ⟨w.heap.size, 1, none⟩ = false := free_later yf (World.block_lt_of_cell? _ _ y1) hb3
      have hb' := hb.trans (hb3.mono hb.size)
      by_cases hle : P ≤ p
      · clear hP
        go_wp2
        go_ret2
        exact ⟨.inl ⟨m, hm, hm1, by show priceQ (xHou x m) ≤ p; rw [HPP.out]; exact hle, HA.out, rfl⟩, hb'⟩
      · have HN := Lib.hid ((HC.out.below hb3).setHoursFor (m - 1))
        have hbN := hb'.setCell (p := ⟨w.heap.size, 1, none⟩) (Nat.le_refl _) (.int .i64 (m - 1))
        have HB := Lib.hid (show ∀ m', m - 1 < m' → m' ≤ 1000 → p < priceQ (xHou x m') from fun m' h1 h2 => by
          rcases Int.lt_or_eq_of_le (show m ≤ m' by omega) with h3 | h3
          · exact HA.out m' h3 h2
          · rw [← h3, HPP.out]; omega)
        have hms : (w3.setCell ⟨w.heap.size, 1, none⟩ (.int .i64 (m - 1))).cell? ⟨w.heap.size, 1, none⟩ = some (.int .i64 (m - 1)) := World.cell?_setCell_same _ _ _ y1'
        clear hP
        go_wp2
        first | (refine ⟨⟨m - 1, by omega, by omega, HN, hbN, HB⟩, ?_⟩; (rw [hms, y1]; show (m - 1 + 1).toNat < (m + 1).toNat; omega)) | (go_roundw; (case rel => first | exact ⟨m - 1, by omega, by omega, HN, hbN, HB⟩ | ((try refine ⟨trivial, ?_⟩); (repeat apply Exists.intro); exact ⟨⟨m - 1, by omega, by omega, HN, hbN, HB⟩, rfl⟩)); (case measure => (rw [hms, y1]; show (m - 1 + 1).toNat < (m + 1).toNat; omega)))
    · obtain rfl : m = -1 := by omega
      go_wp2
      go_ret2
      exact ⟨.inr ⟨fun m' h1 h2 => HA.out m' (by omega) h2, rfl⟩, hb⟩

end Go.Proofs.YtbfmfiaenihmoaaGreatDoor
