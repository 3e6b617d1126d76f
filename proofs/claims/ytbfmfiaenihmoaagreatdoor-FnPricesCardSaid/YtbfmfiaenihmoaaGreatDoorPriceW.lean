/- The walk of the law on prices. Printed by a program of mine. -/
import Derived.Test.YtbfmfiaenihmoaaGreatDoorRows
import Derived.Test.YtbfmfiaenihmoaaGreatDoorPriceR
import Derived.Test.YtbfmfiaenihmoaaGreatDoorTxQuote
import Derived.Test.YtbfmfiaenihmoaaGreatDoorLawB
import Derived.Deep.DeepCutAuto
namespace Go.Proofs.YtbfmfiaenihmoaaGreatDoor
set_option linter.unusedVariables false
set_option linter.unusedSimpArgs false
set_option linter.unusedSectionVars false
open Go.RowKit

/-- the cheapest quote, in one form for every list -/
theorem XCells.setOther {b b' j : Nat} {y : DQuote} {W : World} (h : XCells b y W) (hne : b ≠ b') (v : Value) : XCells b y (W.setCell ⟨b', j, none⟩ v) := by
  have hne' : ¬ b' = b := fun e => hne e.symm
  exact ⟨fun i u hu => (World.cell?_setCell_other _ _ _ _ (by simp [hne'])).trans (h.1 i u hu), fun i => by rw [World.frozen?_setCell]; exact h.2 i⟩
theorem frozen_setCells {b i : Nat} : ∀ (vs : List Value) (o : Nat) (W : World), (W.setCells b o vs).frozen? ⟨b, i, none⟩ = W.frozen? ⟨b, i, none⟩
  | [], _, _ => rfl
  | v :: r, o, W => by rw [World.setCells, frozen_setCells r, World.frozen?_setCell]
theorem XCells.store {b : Nat} {y : DQuote} {W : World} (h : XCells b y W) (x : DQuote) : XCells b x (W.setCells b 0 (quoteE.cells x)) :=
  ⟨fun j v hv => set_cells (w := W) (g := b) (quoteE.cells x) 0 (fun i hi => by
    have hi' : i < (quoteE.cells y).length := by rw [quoteE.len]; rw [quoteE.len] at hi; exact hi
    exact ⟨_, h.1 i _ (List.getElem?_eq_getElem hi')⟩) j v hv, fun i => by rw [frozen_setCells]; exact h.2 i⟩
structure CheapP (l : List DQuote) (q : Nat) (R a : Int) : Prop where
  ok : (a == 0) = decide (0 < l.length)
  least : ∀ x ∈ l, R ≤ priceQ x
  at_ : ∀ x, l[q]? = some x → priceQ x = R
  lt : 0 < l.length → q < l.length
  small : q ≤ 12
theorem CheapR.one {l : List DQuote} {w w' : World} {e : Ending} (h : CheapR l w e w') (h12 : l.length ≤ 12) : ∃ (q : Nat) (R a : Int), CheapP l q R a ∧ e = .returned (.tuple #[.int .i64 q, .int .i64 R, .int .i64 a]) ∧ Below w.heap.size w w' := by
  obtain ⟨⟨rfl, rfl⟩ | ⟨q, y, hy, hl, rfl⟩, hb⟩ := h
  · exact ⟨0, 0, 3, ⟨rfl, fun x hx => (by cases hx), fun x hx => (by cases hx), fun h => (by simp at h), by omega⟩, rfl, hb⟩
  · have hq := (List.getElem?_eq_some_iff.1 hy).1
    refine ⟨q, priceQ y, 0, ⟨?_, hl, fun x hx => ?_, fun _ => hq, by omega⟩, rfl, hb⟩
    · rw [decide_eq_true (show 0 < l.length by omega)]; rfl
    · rw [hy] at hx; cases hx; rfl
def MostP (f : Int → Int) (M p m cd : Int) : Prop :=
  (cd = 0 ∧ 0 ≤ m ∧ m ≤ M ∧ f m ≤ p ∧ ∀ m', m < m' → m' ≤ M → p < f m') ∨ (cd = 3 ∧ ∀ m', 0 ≤ m' → m' ≤ M → p < f m')
theorem MostR.one {f : Int → Int} {M p : Int} {w w' : World} {e : Ending} (h : MostR f M p w e w') : ∃ m cd, MostP f M p m cd ∧ e = .returned (.tuple #[.int .i64 m, .int .i64 cd]) ∧ Below w.heap.size w w' := by
  obtain ⟨⟨m, h0, h1, h2, h3, rfl⟩ | ⟨h0, rfl⟩, hb⟩ := h
  · exact ⟨m, 0, .inl ⟨rfl, h0, h1, h2, h3⟩, rfl, hb⟩
  · exact ⟨0, 3, .inr ⟨rfl, h0⟩, rfl, hb⟩
theorem sumQ_drop {l : List DQuote} {k : Nat} {x : DQuote} (h : l[k]? = some x) : sumQ (l.drop k) = priceQ x + sumQ (l.drop (k + 1)) := by rw [drop_of_get h]; rfl
theorem xMar_zero (x : DQuote) : priceQ (xMar x 0) = costQ x := by
  show (costQ x * (1000 + 0) + 999) / 1000 = costQ x
  omega
theorem xHou_same (x : DQuote) : priceQ (xHou x x.fHours) = priceQ x := rfl
theorem okMar {x : DQuote} (h : okQuote x = true) {m : Int} (h0 : 0 ≤ m) (h1 : m ≤ 5000) : okQuote (xMar x m) = true := by
  unfold okQuote at *
  simp only [Bool.and_eq_true] at h ⊢
  exact ⟨h.1, h.2.1, h.2.2.1, h.2.2.2.1, inB_true h0 h1⟩
theorem noMar {x : DQuote} {m : Int} (h1 : 5000 < m) : okQuote (xMar x m) = false := by
  unfold okQuote
  rw [show inB (xMar x m).fMargin 0 5000 = false from inB_hi h1]
  simp
theorem okHou {x : DQuote} (h : okQuote x = true) {m : Int} (h0 : 0 ≤ m) (h1 : m ≤ 1000) : okQuote (xHou x m) = true := by
  unfold okQuote at *
  simp only [Bool.and_eq_true] at h ⊢
  exact ⟨h.1, inB_true h0 h1, h.2.2.1, h.2.2.2.1, h.2.2.2.2⟩
theorem noHou {x : DQuote} {m : Int} (h1 : 1000 < m) : okQuote (xHou x m) = false := by
  unfold okQuote
  rw [show inB (xHou x m).fHours 0 1000 = false from inB_hi h1]
  simp
/-- what the next greater one answers: none, or dearer than told -/
theorem nextMar {x : DQuote} {p m : Int} (hok : okQuote x = true) (h0 : 0 ≤ m) (h1 : m ≤ 5000) (h : ∀ m', m < m' → m' ≤ 5000 → p < priceQ (xMar x m')) :
    (pricC (xMar x (m + 1)) = 1 ∧ (pricC (xMar x (m + 1)) == 0) = false) ∨ (pricC (xMar x (m + 1)) = 0 ∧ p < pricV (xMar x (m + 1))) := by
  by_cases h2 : m + 1 ≤ 5000
  · have := pric_yes (okMar hok (m := m + 1) (by omega) h2)
    exact .inr ⟨this.2.symm, by rw [← this.1]; exact h _ (by omega) h2⟩
  · have := pric_no (noMar (x := x) (m := m + 1) (by omega))
    exact .inl ⟨this.2.symm, by rw [← this.2]; rfl⟩
theorem nextHou {x : DQuote} {p m : Int} (hok : okQuote x = true) (h0 : 0 ≤ m) (h1 : m ≤ 1000) (h : ∀ m', m < m' → m' ≤ 1000 → p < priceQ (xHou x m')) :
    (pricC (xHou x (m + 1)) = 1 ∧ (pricC (xHou x (m + 1)) == 0) = false) ∨ (pricC (xHou x (m + 1)) = 0 ∧ p < pricV (xHou x (m + 1))) := by
  by_cases h2 : m + 1 ≤ 1000
  · have := pric_yes (okHou hok (m := m + 1) (by omega) h2)
    exact .inr ⟨this.2.symm, by rw [← this.1]; exact h _ (by omega) h2⟩
  · have := pric_no (noHou (x := x) (m := m + 1) (by omega))
    exact .inl ⟨this.2.symm, by rw [← this.2]; rfl⟩

set_option maxRecDepth 100000 in
set_option maxHeartbeats 8000000 in
theorem w_Prices (A0 : Option Addr) (n0 c0 : Nat) (l0 : List UInt8) (A1 : Option Addr) (n1 c1 : Nat) (l1 : List UInt8) (w : World) (hr0 : Rd byteE w A0 n0 l0) (hn0 : n0 ≤ maxLen) (hg0 : ∀ x ∈ l0, (0 : Int) ≤ (x.toNat : Int)) (hr1 : Rd byteE w A1 n1 l1) (hn1 : n1 ≤ maxLen) (hg1 : ∀ x ∈ l1, (0 : Int) ≤ (x.toNat : Int)) (hL : LibW w) :
    Calls Tryz.prog 3 #[.slice A0 n0 c0, .slice A1 n1 c1] w (RetB true w) := by
  clear hg0 hg1
  go_enter Tryz.func3, Tryz.ntmps3
  go_wp2_with fail
  refine (l_r8Long A0 A1 n0 c0 n1 c1 _ hn0 hn1).mono ?_
  rintro e w' ⟨rfl, rfl⟩
  rcases hlong : (decide (1048576 < n0) || decide (1048576 < n1)) with _ | _
  rotate_left
  · clear hlong
    go_wp2
    go_ret
    exact ⟨rfl, Below.refl _ _⟩
  have hs0 : n0 ≤ 1048576 ∧ n1 ≤ 1048576 := by
    rw [Bool.or_eq_false_iff, decide_eq_false_iff_not, decide_eq_false_iff_not] at hlong
    omega
  clear hlong
  go_wp2_with fail
  refine (s_R8Quotes A0 n0 c0 l0 w hr0 hs0.1).mono ?_
  rintro e w1 ⟨A, n, c, l, hok, hl, hn5, rfl, hr, hB⟩
  have HO := Lib.hid hok
  have HL := Lib.hid hl
  have hC := fun W (hb : Below w1.heap.size w1 W) => i_CheapestQuote A n c l W (hr.below hb) hok
  have hT := fun W (hb : Below w1.heap.size w1 W) => i_TotalPrice A n c l W (hr.below hb) hok
  have hV := fun W (hb : Below w1.heap.size w1 W) => i_ValidQuotes_yes A n c l W (hr.below hb) hok
  have hsum := sumQ_range (l := l) fun y hy => hok.qb y hy
  clear hok hl
  as_aux_lemma =>
    go_wp2_with fail
    refine (hC _ (Below.refl _ _)).mono ?_
    rintro e w2 hch
    obtain ⟨q, R, a, hq, rfl, hb2⟩ := hch.one HO.out.few
    clear hch hC
    as_aux_lemma =>
      go_wp2_with fail
      refine (hT _ hb2).mono ?_
      rintro e w3 ⟨rfl, hb3⟩
      replace hb2 := hb2.trans (hb3.mono hb2.size)
      clear hT hb3
      have HQ := Lib.hid hq
      have ha : (a == 0) = decide ((0 : Int) < (n : Int)) := by
        rw [hq.ok, HL.out]
        by_cases h0 : 0 < n
        · rw [decide_eq_true h0, decide_eq_true (by omega)]
        · rw [decide_eq_false h0, decide_eq_false (by omega)]
      obtain ⟨b0, hb0⟩ : ∃ b0, decide ((0 : Int) < (n : Int)) = b0 := ⟨_, rfl⟩
      rw [hb0] at ha
      have HA := Lib.hid ha
      have HB0 := Lib.hid hb0
      have hq12 := hq.small
      clear hq
      have hb0n : decide (0 < n) = b0 := by rw [← hb0]; by_cases h0 : 0 < n
                                            · rw [decide_eq_true h0, decide_eq_true (by omega)]
                                            · rw [decide_eq_false h0, decide_eq_false (by omega)]
      have hbb : (b0 != b0) = false := by cases b0 <;> rfl
      obtain ⟨S, hS⟩ : ∃ S, sumQ l = S := ⟨_, rfl⟩
      rw [hS] at hsum ⊢
      have HS := Lib.hid hS
      clear hS
      as_aux_lemma =>
        go_wp2_with fail
        refine (hV _ hb2).mono ?_
        rintro e w4 ⟨rfl, hb4⟩
        replace hb2 := hb2.trans (hb4.mono hb2.size)
        have HB := Lib.hid (hB.trans (hb2.mono hB.size))
        have HR := Lib.hid (hr.below hb2)
        clear hV hb4 hb2 hr
        as_aux_lemma =>
          go_wp2_with fail
          clear hbb ha hb0 hb0n
          go_loopw [9, 11] (fun v i wr => ∃ (k : Nat), k ≤ n ∧ i = .int .i64 k ∧ v = .int .i64 (sumQ (l.drop k)) ∧ Below w4.heap.size w4 wr) (fun _ i _ => n - (intOf i).toNat)
          case atStart => exact ⟨0, Nat.zero_le _, rfl, by rw [List.drop_zero, HS.out], Below.refl _ _⟩
          case round =>
            obtain ⟨k, hk, rfl, rfl, hb⟩ := hrel
            by_cases hlt : k < n
            · skip
              as_aux_lemma =>
                obtain ⟨b, off, rfl, hcs⟩ := HR.out.2 (by omega)
                obtain ⟨x, hx⟩ : ∃ x, l[k]? = some x := ⟨_, List.getElem?_eq_getElem (by have := HL.out; omega)⟩
                have hcr := range_below (B := 0) (hcs k x hx) hb
                have hc0 := hcr 0 _ rfl
                have hc1 := hcr 1 _ rfl
                have hc2 := hcr 2 _ rfl
                have hc3 := hcr 3 _ rfl
                have hc4 := hcr 4 _ rfl
                simp only [quoteE, Nat.add_zero] at hc0 hc1 hc2 hc3 hc4
                have HOK := Lib.hid (HO.out.ok x (mem_of_get hx))
                have HSZ := Lib.hid (HO.out.sz x (mem_of_get hx))
                have HLE := Lib.hid (HQ.out.least x (mem_of_get hx))
                have HAT := Lib.hid (show q = k → priceQ x = R from fun h => HQ.out.at_ x (h ▸ hx))
                have HSD := Lib.hid (sumQ_drop hx)
                have HQB := Lib.hid (QB.of HOK.out)
                have K1 : Hid (∀ W, Calls Tryz.prog 9 #[.agg #[.string x.fId, .int .i64 x.fHours, .int .i64 x.fRate, .int .i64 x.fMaterial, .int .i64 x.fMargin]] W fun e w' => e = .returned (.tuple #[.int .i64 (costQ x), .int .i64 0]) ∧ Below W.heap.size W w') := Lib.hid fun W => i_CostOf x W HOK.out HSZ.out
                have K2 : Hid (∀ W, Calls Tryz.prog 10 #[.agg #[.string x.fId, .int .i64 x.fHours, .int .i64 x.fRate, .int .i64 x.fMaterial, .int .i64 x.fMargin]] W fun e w' => e = .returned (.tuple #[.int .i64 (priceQ x), .int .i64 0]) ∧ Below W.heap.size W w') := Lib.hid fun W => i_PriceOf x W HOK.out HSZ.out
                have K3 : Hid (∀ W, LibW W → Calls Tryz.prog 12 #[.agg #[.string x.fId, .int .i64 x.fHours, .int .i64 x.fRate, .int .i64 x.fMaterial, .int .i64 x.fMargin]] W fun e w' => e = .returned (.string (txQuote x)) ∧ Below W.heap.size W w') := Lib.hid fun W h => i_QuoteText_yes x W HOK.out HSZ.out h
                have K4 : Hid (∀ W, LibW W → Calls Tryz.prog 11 #[.string (txQuote x)] W fun e w' => e = .returned (.tuple #[.agg #[.string x.fId, .int .i64 x.fHours, .int .i64 x.fRate, .int .i64 x.fMaterial, .int .i64 x.fMargin], .bool true]) ∧ Below W.heap.size W w') := Lib.hid fun W h => (I_ReadQuote (txQuote x) W (by have := (read_txQuote HOK.out).2.2; omega) h).mono (by
                  rintro e w' ⟨y, hy, rfl, hb⟩
                  obtain ⟨h1, h2, _⟩ := read_txQuote HOK.out
                  have hyx : y = x := hy.out.trans h1
                  subst hyx
                  exact ⟨by rw [h2], hb⟩)
                obtain ⟨TX, hTX⟩ : ∃ TX, txQuote x = TX := ⟨_, rfl⟩
                rw [hTX] at K3 K4
                clear hTX hcr hx hcs
                have hcx := range_new wr #[.string x.fId, .int .i64 x.fHours, .int .i64 x.fRate, .int .i64 x.fMaterial, .int .i64 x.fMargin] 32
                have hfx := fun j => new_free wr #[.string x.fId, .int .i64 x.fHours, .int .i64 x.fRate, .int .i64 x.fMaterial, .int .i64 x.fMargin] 32 j
                have hb0 : Below w4.heap.size w4 (wr.alloc (.cells #[.string x.fId, .int .i64 x.fHours, .int .i64 x.fRate, .int .i64 x.fMaterial, .int .i64 x.fMargin] 32)) := hb.alloc hb.size _
                obtain ⟨W0, hW0⟩ : ∃ W0, wr.alloc (.cells #[.string x.fId, .int .i64 x.fHours, .int .i64 x.fRate, .int .i64 x.fMaterial, .int .i64 x.fMargin] 32) = W0 := ⟨_, rfl⟩
                rw [hW0] at hb0 hcx hfx
                have HX0 := Lib.hid (show XCells wr.heap.size x W0 from ⟨hcx, hfx⟩)
                have hx0 := hcx 0 _ rfl
                have hx1 := hcx 1 _ rfl
                have hx2 := hcx 2 _ rfl
                have hx3 := hcx 3 _ rfl
                have hx4 := hcx 4 _ rfl
                simp only [Nat.zero_add] at hx0 hx1 hx2 hx3 hx4
                clear hcx hfx
                go_wp2_with fail
                try rw [hW0]
                clear hW0
                refine (K1.out _).mono ?_
                rintro e w5 ⟨rfl, hb5⟩
                replace hx0 := cell_later hb5 hx0
                replace hx1 := cell_later hb5 hx1
                replace hx2 := cell_later hb5 hx2
                replace hx3 := cell_later hb5 hx3
                replace hx4 := cell_later hb5 hx4
                replace hb0 := hb0.trans (hb5.mono hb0.size)
                replace HX0 := Lib.hid (HX0.out.below hb5)
                clear hb5 K1 hc0 hc1 hc2 hc3 hc4
                as_aux_lemma =>
                  go_wp2_with fail
                  refine (K2.out _).mono ?_
                  rintro e w6 ⟨rfl, hb6⟩
                  replace hx0 := cell_later hb6 hx0
                  replace hx1 := cell_later hb6 hx1
                  replace hx2 := cell_later hb6 hx2
                  replace hx3 := cell_later hb6 hx3
                  replace hx4 := cell_later hb6 hx4
                  replace hb0 := hb0.trans (hb6.mono hb0.size)
                  replace HX0 := Lib.hid (HX0.out.below hb6)
                  clear hb6 K2
                  as_aux_lemma =>
                    go_wp2_with fail
                    refine (K3.out _ (hL.below (HB.out.trans (hb0.mono HB.out.size)))).mono ?_
                    rintro e w7 ⟨rfl, hb7⟩
                    replace hx0 := cell_later hb7 hx0
                    replace hx1 := cell_later hb7 hx1
                    replace hx2 := cell_later hb7 hx2
                    replace hx3 := cell_later hb7 hx3
                    replace hx4 := cell_later hb7 hx4
                    replace hb0 := hb0.trans (hb7.mono hb0.size)
                    replace HX0 := Lib.hid (HX0.out.below hb7)
                    clear hb7 K3
                    as_aux_lemma =>
                      go_wp2_with fail
                      refine (K4.out _ (hL.below (HB.out.trans (hb0.mono HB.out.size)))).mono ?_
                      rintro e w8 ⟨rfl, hb8⟩
                      replace hx0 := cell_later hb8 hx0
                      replace hx1 := cell_later hb8 hx1
                      replace hx2 := cell_later hb8 hx2
                      replace hx3 := cell_later hb8 hx3
                      replace hx4 := cell_later hb8 hx4
                      replace hb0 := hb0.trans (hb8.mono hb0.size)
                      replace HX0 := Lib.hid (HX0.out.below hb8)
                      clear hb8 K4
                      as_aux_lemma =>
                        have HC : Hid (costQ x = x.fHours * x.fRate + x.fMaterial) := Lib.hid rfl
                        have HCG := Lib.hid (show priceQ x = (costQ x * (1000 + x.fMargin) + 999) / 1000 from rfl)
                        have hcg := HQB.out.cg
                        have hcr := HQB.out.cost
                        have hpr := HQB.out.price
                        have hhr := HQB.out.hr
                        have hm0 := HQB.out.m0
                        have hm1 := HQB.out.m1
                        have hg0 := HQB.out.g0
                        have hg1 := HQB.out.g1
                        obtain ⟨C, hCe⟩ : ∃ C, costQ x = C := ⟨_, rfl⟩
                        obtain ⟨P, hPe⟩ : ∃ P, priceQ x = P := ⟨_, rfl⟩
                        rw [hCe] at hcg hcr HC HCG ⊢
                        rw [hPe] at hpr HCG HLE HAT HSD ⊢
                        have HCe := Lib.hid hCe
                        have HPe := Lib.hid hPe
                        clear hCe hPe
                        have hsr := sumQ_range (l := l.drop k) fun y hy => HO.out.qb y (List.mem_of_mem_drop hy)
                        have hsr2 := sumQ_range (l := l.drop (k + 1)) fun y hy => HO.out.qb y (List.mem_of_mem_drop hy)
                        obtain ⟨S1, hS1⟩ : ∃ S1, sumQ (l.drop k) = S1 := ⟨_, rfl⟩
                        rw [hS1] at hsr HSD ⊢
                        have hsr3 : 0 ≤ S1 ∧ S1 ≤ 2160000012 := by
                          have h1 := HO.out.few
                          have h2 : (l.drop k).length ≤ 12 := by rw [List.length_drop]; omega
                          omega
                        obtain ⟨S2, hS2⟩ : ∃ S2, sumQ (l.drop (k + 1)) = S2 := ⟨_, rfl⟩
                        rw [hS2] at HSD hsr2
                        have HS2 := Lib.hid hS2
                        have hsd : S1 - P = S2 := by have := HSD.out; omega
                        have hs20 : 0 ≤ S2 := hsr2.1
                        clear hsr hsr2 hS1 hS2
                        have hne := fun W => run_neq_Quote x x W
                        have hxx : x.eqv x = true := (DQuote.eqv_iff x x).2 rfl
                        rw [hxx] at hne
                        have hcy := range_new w8 #[.string x.fId, .int .i64 x.fHours, .int .i64 x.fRate, .int .i64 x.fMaterial, .int .i64 x.fMargin] 32
                        have hby : Below w8.heap.size w8 (w8.alloc (.cells #[.string x.fId, .int .i64 x.fHours, .int .i64 x.fRate, .int .i64 x.fMaterial, .int .i64 x.fMargin] 32)) := (Below.refl _ _).alloc (Nat.le_refl _) _
                        go_upto_region 16 with fail
                        obtain ⟨W9, hW9⟩ : ∃ W9, w8.alloc (.cells #[.string x.fId, .int .i64 x.fHours, .int .i64 x.fRate, .int .i64 x.fMaterial, .int .i64 x.fMargin] 32) = W9 := ⟨_, rfl⟩
                        rw [hW9] at hcy hby
                        rw [hW9]
                        clear hW9
                        replace hx0 := cell_later hby hx0
                        replace hx1 := cell_later hby hx1
                        replace hx2 := cell_later hby hx2
                        replace hx3 := cell_later hby hx3
                        replace hx4 := cell_later hby hx4
                        replace hb0 := hb0.trans (hby.mono hb0.size)
                        replace HX0 := Lib.hid (HX0.out.below hby)
                        have hy0 := hcy 0 _ rfl
                        have hy1 := hcy 1 _ rfl
                        have hy2 := hcy 2 _ rfl
                        have hy3 := hcy 3 _ rfl
                        have hy4 := hcy 4 _ rfl
                        simp only [Nat.zero_add] at hy0 hy1 hy2 hy3 hy4
                        clear hcy hby
                        go_cut [167] (fun s167 wx => s167 = .bool false ∧ wx = W9)
                        case first =>
                          obtain ⟨G, hG⟩ : ∃ G, C * (1000 + x.fMargin) = G := ⟨_, rfl⟩
                          have hPG : P = (G + 999) / 1000 := by have := HCG.out; rw [hG] at this; exact this
                          rw [hG] at hcg
                          have q1 : (C != x.fHours * x.fRate + x.fMaterial) = false := by rw [HC.out]; simp
                          have q2 : decide (1000 * P < G) = false := decide_eq_false (by omega)
                          have q2' : ¬ 1000 * P < G := by omega
                          have q3 : decide (1000 * (P - 1) ≥ G) = false := decide_eq_false (by omega)
                          have q3' : decide (G ≤ 1000 * (P - 1)) = false := decide_eq_false (by omega)
                          have q3'' : ¬ G ≤ 1000 * (P - 1) := by omega
                          have q4 : ¬ P < R := by have := HLE.out; omega
                          have q4' : decide (P < R) = false := decide_eq_false q4
                          clear HC hcr hpr
                          by_cases hC0 : C = 0
                          · have hG0 : G = 0 := by rw [← hG, hC0, Int.zero_mul]
                            have p1 : (C == 0) = true := by rw [hC0]; rfl
                            have p2 : (P != 0) = false := by rw [show P = 0 by omega]; rfl
                            clear hC0 hG0 hPG
                            by_cases hqk : q = k
                            · skip
                              as_aux_lemma =>
                                have r1 : ((k : Int) == (q : Int)) = true := by rw [hqk]; simp
                                have r2 : (P != R) = false := by rw [HAT.out hqk]; simp
                                clear hqk HAT
                                go_wp2
                                go_meet
                                case rel => exact ⟨rfl, rfl⟩
                            · skip
                              as_aux_lemma =>
                                have r1 : ((k : Int) == (q : Int)) = false := by rw [beq_eq_false_iff_ne]; omega
                                go_wp2
                                go_meet
                                case rel => exact ⟨rfl, rfl⟩
                          · have p1 : (C == 0) = false := by rw [beq_eq_false_iff_ne]; exact hC0
                            clear hC0 hPG
                            by_cases hqk : q = k
                            · skip
                              as_aux_lemma =>
                                have r1 : ((k : Int) == (q : Int)) = true := by rw [hqk]; simp
                                have r2 : (P != R) = false := by rw [HAT.out hqk]; simp
                                clear hqk HAT
                                go_wp2
                                go_meet
                                case rel => exact ⟨rfl, rfl⟩
                            · skip
                              as_aux_lemma =>
                                have r1 : ((k : Int) == (q : Int)) = false := by rw [beq_eq_false_iff_ne]; omega
                                go_wp2
                                go_meet
                                case rel => exact ⟨rfl, rfl⟩
                        case rest =>
                          obtain ⟨rfl, rfl⟩ := hcut
                          as_aux_lemma =>
                            clear hne hxx hsd HSD HLE HAT HCG hcg hcr hpr hhr hm0 hm1 hg0 hg1 HC hsr3 HQ HL hy0 hy1 hy2 hy3 hy4
                            have hW := l_r8Wide A1 n1 c1 l1 (2 * k) 600 wc (hr1.below (HB.out.trans (hb0.mono HB.out.size))) hn1 (by omega) (by omega) (by omega)
                            rw [show ((2 * k : Nat) : Int) = 2 * (k : Int) by push_cast; rfl] at hW
                            go_wp2_with fail
                            refine hW.mono ?_
                            clear hW
                            rintro e w10 ⟨r, hr600, rfl, rfl⟩
                            as_aux_lemma =>
                              have hcM := fun W => i_MarginFor x (1000 * (r : Int)) W HOK.out HSZ.out (by omega) (by omega)
                              have hcH := fun W => i_HoursFor x (1000 * (r : Int)) W HOK.out HSZ.out (by omega) (by omega)
                              go_wp2_with fail
                              refine (hcM _).mono ?_
                              rintro e w11 hmr
                              obtain ⟨m, cd, hM, rfl, hb11⟩ := hmr.one
                              replace hx0 := cell_later hb11 hx0
                              replace hx1 := cell_later hb11 hx1
                              replace hx2 := cell_later hb11 hx2
                              replace hx3 := cell_later hb11 hx3
                              replace hx4 := cell_later hb11 hx4
                              replace hb0 := hb0.trans (hb11.mono hb0.size)
                              replace HX0 := Lib.hid (HX0.out.below hb11)
                              have HM := Lib.hid hM
                              clear hmr hM hcM hb11
                              as_aux_lemma =>
                                go_wp2_with fail
                                refine (hcH _).mono ?_
                                rintro e w12 hmr
                                obtain ⟨h, ce, hH, rfl, hb12⟩ := hmr.one
                                replace hx0 := cell_later hb12 hx0
                                replace hx1 := cell_later hb12 hx1
                                replace hx2 := cell_later hb12 hx2
                                replace hx3 := cell_later hb12 hx3
                                replace hx4 := cell_later hb12 hx4
                                replace hb0 := hb0.trans (hb12.mono hb0.size)
                                replace HX0 := Lib.hid (HX0.out.below hb12)
                                have HH := Lib.hid hH
                                clear hmr hH hcH hb12
                                as_aux_lemma =>
                                  have hcy := range_new w12 #[.string x.fId, .int .i64 x.fHours, .int .i64 x.fRate, .int .i64 x.fMaterial, .int .i64 x.fMargin] 32
                                  have hfy := fun j => new_free w12 #[.string x.fId, .int .i64 x.fHours, .int .i64 x.fRate, .int .i64 x.fMaterial, .int .i64 x.fMargin] 32 j
                                  have hby : Below w12.heap.size w12 (w12.alloc (.cells #[.string x.fId, .int .i64 x.fHours, .int .i64 x.fRate, .int .i64 x.fMaterial, .int .i64 x.fMargin] 32)) := (Below.refl _ _).alloc (Nat.le_refl _) _
                                  have hw12 : w4.heap.size ≤ w12.heap.size := hb0.size
                                  have hlt12 : wr.heap.size < w12.heap.size := World.block_lt_of_cell? w12 ⟨wr.heap.size, 0, none⟩ hx0
                                  go_upto_if 187 with fail
                                  obtain ⟨W13, hW13⟩ : ∃ W, w12.alloc (.cells #[.string x.fId, .int .i64 x.fHours, .int .i64 x.fRate, .int .i64 x.fMaterial, .int .i64 x.fMargin] 32) = W := ⟨_, rfl⟩
                                  rw [hW13] at hcy hby hfy
                                  rw [hW13]
                                  clear hW13
                                  replace hb0 := hb0.trans (hby.mono hb0.size)
                                  replace HX0 := Lib.hid (HX0.out.below hby)
                                  have HY0 := Lib.hid (show XCells w12.heap.size (xMar x x.fMargin) W13 from ⟨hcy, hfy⟩)
                                  obtain ⟨bz, hbz⟩ : ∃ b, w12.heap.size = b := ⟨_, rfl⟩
                                  rw [hbz] at HY0 hlt12 hw12 ⊢
                                  clear hcy hby hfy hx0 hx1 hx2 hx3 hx4 hbz
                                  go_cut [25, 26, 27, 28] (fun s25 s26 s27 s28 wx => Below w4.heap.size w4 wx ∧ Hid (XCells wr.heap.size x wx) ∧ Hid (∃ y, XCells bz y wx))
                                  case first =>
                                    have hC := HY0.out.1
                                    have y0 := hC 0 _ rfl
                                    have y1 := hC 1 _ rfl
                                    have y2 := hC 2 _ rfl
                                    have y3 := hC 3 _ rfl
                                    have y4 := hC 4 _ rfl
                                    simp only [Nat.zero_add] at y0 y1 y2 y3 y4
                                    simp only [xMar] at y0 y1 y2 y3 y4
                                    have yf := HY0.out.2 4
                                    clear hC
                                    rcases HM.out with ⟨rfl, m0, m1, mle, mgt⟩ | ⟨rfl, mall⟩
                                    · skip
                                      as_aux_lemma =>
                                        have e1 := pric_yes (okMar HOK.out m0 m1)
                                        have hp1 : Hid (∀ W, Calls Tryz.prog 16 #[.agg #[.string x.fId, .int .i64 x.fHours, .int .i64 x.fRate, .int .i64 x.fMaterial, .int .i64 m]] W fun e w' => e = .returned (.tuple #[.int .i64 (priceQ (xMar x m)), .int .i64 0]) ∧ Below W.heap.size W w') := Lib.hid (fun W => by
                                          have h := s_PriceOf (xMar x m) W HSZ.out
                                          rw [← e1.1, ← e1.2] at h
                                          exact h)
                                        have hnx := nextMar HOK.out m0 m1 mgt
                                        have hp2 : Hid (∀ W, Calls Tryz.prog 16 #[.agg #[.string x.fId, .int .i64 x.fHours, .int .i64 x.fRate, .int .i64 x.fMaterial, .int .i64 (m + 1)]] W fun e w' => e = .returned (.tuple #[.int .i64 (pricV (xMar x (m + 1))), .int .i64 (pricC (xMar x (m + 1)))]) ∧ Below W.heap.size W w') := Lib.hid (fun W => s_PriceOf (xMar x (m + 1)) W HSZ.out)
                                        have mle' : priceQ (xMar x m) ≤ 1000 * (r : Int) := mle
                                        obtain ⟨P1, hP1⟩ : ∃ P, priceQ (xMar x m) = P := ⟨_, rfl⟩
                                        rw [hP1] at hp1 mle'
                                        obtain ⟨V, hV⟩ : ∃ V, pricV (xMar x (m + 1)) = V := ⟨_, rfl⟩
                                        obtain ⟨D, hD⟩ : ∃ D, pricC (xMar x (m + 1)) = D := ⟨_, rfl⟩
                                        rw [hV, hD] at hp2 hnx
                                        clear e1 hP1 hV hD mle mgt
                                        have HY1 := Lib.hid (HY0.out.setMarginFor m)
                                        have HX1 := Lib.hid (HX0.out.setOther (b' := bz) (j := 4) (by omega) (.int .i64 m))
                                        have hb1 := hb0.setCell (p := ⟨bz, 4, none⟩) hw12 (.int .i64 m)
                                        have hC := HY1.out.1
                                        have z0 := hC 0 _ rfl
                                        have z1 := hC 1 _ rfl
                                        have z2 := hC 2 _ rfl
                                        have z3 := hC 3 _ rfl
                                        have z4 := hC 4 _ rfl
                                        simp only [Nat.zero_add] at z0 z1 z2 z3 z4
                                        simp only [xMar] at z0 z1 z2 z3 z4
                                        clear hC
                                        go_wp2_with fail
                                        refine (hp1.out _).mono ?_
                                        rintro e w14 ⟨rfl, hb14⟩
                                        replace HY1 := Lib.hid (HY1.out.below hb14)
                                        replace HX1 := Lib.hid (HX1.out.below hb14)
                                        replace hb1 := hb1.trans (hb14.mono hb1.size)
                                        clear hb14 hp1 z0 z1 z2 z3 z4 y0 y1 y2 y3 y4 yf
                                        as_aux_lemma =>
                                          have hC := HY1.out.1
                                          have y0 := hC 0 _ rfl
                                          have y1 := hC 1 _ rfl
                                          have y2 := hC 2 _ rfl
                                          have y3 := hC 3 _ rfl
                                          have y4 := hC 4 _ rfl
                                          simp only [Nat.zero_add] at y0 y1 y2 y3 y4
                                          simp only [xMar] at y0 y1 y2 y3 y4
                                          have yf := HY1.out.2 4
                                          clear hC
                                          have HY2 := Lib.hid (HY1.out.setMarginFor (m + 1))
                                          have HX2 := Lib.hid (HX1.out.setOther (b' := bz) (j := 4) (by omega) (.int .i64 (m + 1)))
                                          have hb2 := hb1.setCell (p := ⟨bz, 4, none⟩) hw12 (.int .i64 (m + 1))
                                          have hC := HY2.out.1
                                          have z0 := hC 0 _ rfl
                                          have z1 := hC 1 _ rfl
                                          have z2 := hC 2 _ rfl
                                          have z3 := hC 3 _ rfl
                                          have z4 := hC 4 _ rfl
                                          simp only [Nat.zero_add] at z0 z1 z2 z3 z4
                                          simp only [xMar] at z0 z1 z2 z3 z4
                                          clear hC
                                          go_wp2_with fail
                                          refine (hp2.out _).mono ?_
                                          rintro e w15 ⟨rfl, hb15⟩
                                          replace HY2 := Lib.hid (HY2.out.below hb15)
                                          replace HX2 := Lib.hid (HX2.out.below hb15)
                                          replace hb2 := hb2.trans (hb15.mono hb2.size)
                                          clear hb15 hp2 z0 z1 z2 z3 z4 y0 y1 y2 y3 y4 yf
                                          have t1 : ¬ 1000 * (r : Int) < P1 := by omega
                                          have t1' : decide (P1 > 1000 * (r : Int)) = false := decide_eq_false (by omega)
                                          rcases hnx with ⟨hD1, hD2⟩ | ⟨hD1, hV1⟩
                                          · skip
                                            as_aux_lemma =>
                                              clear hD1
                                              go_wp2
                                              go_meet
                                              case rel => exact ⟨hb2, HX2, Lib.hid ⟨_, HY2.out⟩⟩
                                          · skip
                                            as_aux_lemma =>
                                              subst hD1
                                              have t2 : ¬ V ≤ 1000 * (r : Int) := by omega
                                              go_wp2
                                              go_meet
                                              case rel => exact ⟨hb2, HX2, Lib.hid ⟨_, HY2.out⟩⟩
                                    · skip
                                      as_aux_lemma =>
                                        have hc0 : 1000 * (r : Int) < C := by
                                          have h1 := mall 0 (by omega) (by omega)
                                          have h2 := xMar_zero x
                                          rw [HCe.out] at h2
                                          have h3 : 1000 * (r : Int) < priceQ (xMar x 0) := h1
                                          rw [h2] at h3
                                          exact h3
                                        have t1 : ¬ C ≤ 1000 * (r : Int) := by omega
                                        clear mall y0 y1 y2 y3 y4 yf
                                        go_wp2
                                        go_meet
                                        case rel => exact ⟨hb0, HX0, Lib.hid ⟨_, HY0.out⟩⟩
                                  case rest =>
                                    obtain ⟨hbc, HXc, HYc⟩ := hcut
                                    as_aux_lemma =>
                                      clear HM HX0 HY0 hb0
                                      obtain ⟨y, hy⟩ := HYc.out
                                      clear HYc
                                      have hC := HXc.out.1
                                      have hx0 := hC 0 _ rfl
                                      have hx1 := hC 1 _ rfl
                                      have hx2 := hC 2 _ rfl
                                      have hx3 := hC 3 _ rfl
                                      have hx4 := hC 4 _ rfl
                                      simp only [Nat.zero_add] at hx0 hx1 hx2 hx3 hx4
                                      clear hC
                                      have hC := hy.1
                                      have y0 := hC 0 _ rfl
                                      have y1 := hC 1 _ rfl
                                      have y2 := hC 2 _ rfl
                                      have y3 := hC 3 _ rfl
                                      have y4 := hC 4 _ rfl
                                      simp only [Nat.zero_add] at y0 y1 y2 y3 y4
                                      clear hC
                                      have f0 := hy.2 0
                                      have f1 := hy.2 1
                                      have f2 := hy.2 2
                                      have f3 := hy.2 3
                                      have f4 := hy.2 4
                                      have HS := Lib.hid (hy.store x)
                                      have hbS := below_setCells hw12 (quoteE.cells x) 0 hbc
                                      go_upto_if 228 with fail
                                      change Code.wp _ _ _ _ (wc.setCells bz 0 (quoteE.cells x))
                                      generalize wc.setCells bz 0 (quoteE.cells x) = W16 at *
                                      clear hx0 hx1 hx2 hx3 hx4 y0 y1 y2 y3 y4 f0 f1 f2 f3 f4 hy HXc hbc
                                      have hC : W16.rangeAt bz 0 (quoteE.cells (xHou x x.fHours)) := HS.out.1
                                      have y0 := hC 0 _ rfl
                                      have y1 := hC 1 _ rfl
                                      have y2 := hC 2 _ rfl
                                      have y3 := hC 3 _ rfl
                                      have y4 := hC 4 _ rfl
                                      simp only [Nat.zero_add] at y0 y1 y2 y3 y4
                                      simp only [xHou] at y0 y1 y2 y3 y4
                                      have yf := HS.out.2 1
                                      clear hC
                                      rcases HH.out with ⟨rfl, m0, m1, mle, mgt⟩ | ⟨rfl, mall⟩
                                      · skip
                                        as_aux_lemma =>
                                          have e1 := pric_yes (okHou HOK.out m0 m1)
                                          have hp1 : Hid (∀ W, Calls Tryz.prog 16 #[.agg #[.string x.fId, .int .i64 h, .int .i64 x.fRate, .int .i64 x.fMaterial, .int .i64 x.fMargin]] W fun e w' => e = .returned (.tuple #[.int .i64 (priceQ (xHou x h)), .int .i64 0]) ∧ Below W.heap.size W w') := Lib.hid (fun W => by
                                            have h := s_PriceOf (xHou x h) W HSZ.out
                                            rw [← e1.1, ← e1.2] at h
                                            exact h)
                                          have hnx := nextHou HOK.out m0 m1 mgt
                                          have hp2 : Hid (∀ W, Calls Tryz.prog 16 #[.agg #[.string x.fId, .int .i64 (h + 1), .int .i64 x.fRate, .int .i64 x.fMaterial, .int .i64 x.fMargin]] W fun e w' => e = .returned (.tuple #[.int .i64 (pricV (xHou x (h + 1))), .int .i64 (pricC (xHou x (h + 1)))]) ∧ Below W.heap.size W w') := Lib.hid (fun W => s_PriceOf (xHou x (h + 1)) W HSZ.out)
                                          have mle' : priceQ (xHou x h) ≤ 1000 * (r : Int) := mle
                                          obtain ⟨P1, hP1⟩ : ∃ P, priceQ (xHou x h) = P := ⟨_, rfl⟩
                                          rw [hP1] at hp1 mle'
                                          obtain ⟨V, hV⟩ : ∃ V, pricV (xHou x (h + 1)) = V := ⟨_, rfl⟩
                                          obtain ⟨D, hD⟩ : ∃ D, pricC (xHou x (h + 1)) = D := ⟨_, rfl⟩
                                          rw [hV, hD] at hp2 hnx
                                          clear e1 hP1 hV hD mle mgt
                                          have HY1 := Lib.hid (XCells.setHoursFor (x := x) (m := x.fHours) HS.out h)
                                          have hb1 := hbS.setCell (p := ⟨bz, 1, none⟩) hw12 (.int .i64 h)
                                          have hC := HY1.out.1
                                          have z0 := hC 0 _ rfl
                                          have z1 := hC 1 _ rfl
                                          have z2 := hC 2 _ rfl
                                          have z3 := hC 3 _ rfl
                                          have z4 := hC 4 _ rfl
                                          simp only [Nat.zero_add] at z0 z1 z2 z3 z4
                                          simp only [xHou] at z0 z1 z2 z3 z4
                                          clear hC
                                          go_wp2_with fail
                                          refine (hp1.out _).mono ?_
                                          rintro e w14 ⟨rfl, hb14⟩
                                          replace HY1 := Lib.hid (HY1.out.below hb14)
                                          replace hb1 := hb1.trans (hb14.mono hb1.size)
                                          clear hb14 hp1 z0 z1 z2 z3 z4 y0 y1 y2 y3 y4 yf
                                          as_aux_lemma =>
                                            have hC := HY1.out.1
                                            have y0 := hC 0 _ rfl
                                            have y1 := hC 1 _ rfl
                                            have y2 := hC 2 _ rfl
                                            have y3 := hC 3 _ rfl
                                            have y4 := hC 4 _ rfl
                                            simp only [Nat.zero_add] at y0 y1 y2 y3 y4
                                            simp only [xHou] at y0 y1 y2 y3 y4
                                            have yf := HY1.out.2 1
                                            clear hC
                                            have HY2 := Lib.hid (HY1.out.setHoursFor (h + 1))
                                            have hb2 := hb1.setCell (p := ⟨bz, 1, none⟩) hw12 (.int .i64 (h + 1))
                                            have hC := HY2.out.1
                                            have z0 := hC 0 _ rfl
                                            have z1 := hC 1 _ rfl
                                            have z2 := hC 2 _ rfl
                                            have z3 := hC 3 _ rfl
                                            have z4 := hC 4 _ rfl
                                            simp only [Nat.zero_add] at z0 z1 z2 z3 z4
                                            simp only [xHou] at z0 z1 z2 z3 z4
                                            clear hC
                                            go_wp2_with fail
                                            refine (hp2.out _).mono ?_
                                            rintro e w15 ⟨rfl, hb15⟩
                                            replace hb2 := hb2.trans (hb15.mono hb2.size)
                                            clear hb15 hp2 z0 z1 z2 z3 z4 y0 y1 y2 y3 y4 yf HY2
                                            have t1 : ¬ 1000 * (r : Int) < P1 := by omega
                                            rcases hnx with ⟨hD1, hD2⟩ | ⟨hD1, hV1⟩
                                            · skip
                                              as_aux_lemma =>
                                                clear hD1
                                                go_wp2
                                                first | (refine ⟨⟨k + 1, by omega, by go_num, by rw [HS2.out], hb2⟩, ?_⟩; (simp [intOf]; omega)) | (go_roundw; (case rel => first | exact ⟨k + 1, by omega, by go_num, by rw [HS2.out], hb2⟩ | ((try refine ⟨trivial, ?_⟩); (repeat apply Exists.intro); exact ⟨⟨k + 1, by omega, by go_num, by rw [HS2.out], hb2⟩, rfl⟩)); (case measure => (simp [intOf]; omega)))
                                            · skip
                                              as_aux_lemma =>
                                                subst hD1
                                                have t2 : ¬ V ≤ 1000 * (r : Int) := by omega
                                                go_wp2
                                                first | (refine ⟨⟨k + 1, by omega, by go_num, by rw [HS2.out], hb2⟩, ?_⟩; (simp [intOf]; omega)) | (go_roundw; (case rel => first | exact ⟨k + 1, by omega, by go_num, by rw [HS2.out], hb2⟩ | ((try refine ⟨trivial, ?_⟩); (repeat apply Exists.intro); exact ⟨⟨k + 1, by omega, by go_num, by rw [HS2.out], hb2⟩, rfl⟩)); (case measure => (simp [intOf]; omega)))
                                      · skip
                                        as_aux_lemma =>
                                          have hc0 : 1000 * (r : Int) < P := by
                                            have h1 := mall x.fHours HQB.out.h0 HQB.out.h1
                                            have h3 : 1000 * (r : Int) < priceQ (xHou x x.fHours) := h1
                                            rw [xHou_same, HPe.out] at h3
                                            exact h3
                                          have t1 : ¬ P ≤ 1000 * (r : Int) := by omega
                                          clear mall y0 y1 y2 y3 y4 yf
                                          go_wp2
                                          first | (refine ⟨⟨k + 1, by omega, by go_num, by rw [HS2.out], hbS⟩, ?_⟩; (simp [intOf]; omega)) | (go_roundw; (case rel => first | exact ⟨k + 1, by omega, by go_num, by rw [HS2.out], hbS⟩ | ((try refine ⟨trivial, ?_⟩); (repeat apply Exists.intro); exact ⟨⟨k + 1, by omega, by go_num, by rw [HS2.out], hbS⟩, rfl⟩)); (case measure => (simp [intOf]; omega)))
            · skip
              as_aux_lemma =>
                obtain rfl : k = n := by omega
                have E : Hid (sumQ (l.drop k) = 0) := Lib.hid (by rw [List.drop_of_length_le (by rw [HL.out]; exact Nat.le_refl _)]; rfl)
                rw [E.out]
                have hBz := HB.out.trans (hb.mono HB.out.size)
                by_cases h0 : 0 < k
                · have hqk : q < k := by have := HQ.out.lt; rw [HL.out] at this; exact this h0
                  have ha0 : a = 0 := by
                    have := HA.out
                    rw [← HB0.out, decide_eq_true (by omega)] at this
                    exact eq_of_beq this
                  subst ha0
                  clear HR hlt hk
                  go_wp2
                  go_ret
                  exact ⟨rfl, hBz⟩
                · have ha0 : (a != 0) = true := by
                    have := HA.out
                    rw [← HB0.out, decide_eq_false (by omega)] at this
                    rw [bne, this]; rfl
                  clear HR hlt hk
                  go_wp2
                  go_ret
                  exact ⟨rfl, hBz⟩
end Go.Proofs.YtbfmfiaenihmoaaGreatDoor
