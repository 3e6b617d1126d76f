/- The walk of the law on insurance. Printed by a program of mine. -/
import Derived.Test.YtflhpjfnpioldaaGreatDoorRows
import Derived.Test.YtflhpjfnpioldaaGreatDoorPolX
import Derived.Test.YtflhpjfnpioldaaGreatDoorPolL
import Derived.Test.YtflhpjfnpioldaaGreatDoorPolS
import Derived.Test.YtflhpjfnpioldaaGreatDoorDrawRPolicy
import Derived.Test.YtflhpjfnpioldaaGreatDoorTxPolicy
import Derived.Test.YtflhpjfnpioldaaGreatDoorLawB
import Derived.Deep.DeepCutAuto
namespace Go.Proofs.YtflhpjfnpioldaaGreatDoor
set_option linter.unusedVariables false
set_option linter.unusedSimpArgs false
set_option linter.unusedSectionVars false
open Go.RowKit

structure BestP (l : List DPolicy) (ds : List Int) (q : Nat) (R a : Int) : Prop where
  ok : (a == 0) = decide (0 < l.length)
  least : ∀ x ∈ l, R ≤ costP x ds
  at_ : ∀ x, l[q]? = some x → costP x ds = R
  lt : 0 < l.length → q < l.length
  small : q ≤ 12
theorem BestR.one {l : List DPolicy} {ds : List Int} {w w' : World} {e : Ending} (h : BestR l ds w e w') (h12 : l.length ≤ 8) : ∃ (q : Nat) (R a : Int), BestP l ds q R a ∧ e = .returned (.tuple #[.int .i64 q, .int .i64 R, .int .i64 a]) ∧ Below w.heap.size w w' := by
  obtain ⟨⟨rfl, rfl⟩ | ⟨q, y, hy, hl, rfl⟩, hb⟩ := h
  · exact ⟨0, 0, 3, ⟨rfl, fun x hx => (by cases hx), fun x hx => (by cases hx), fun h => (by simp at h), by omega⟩, rfl, hb⟩
  · have hq := (List.getElem?_eq_some_iff.1 hy).1
    refine ⟨q, costP y ds, 0, ⟨?_, hl, fun x hx => ?_, fun _ => hq, by omega⟩, rfl, hb⟩
    · rw [decide_eq_true (show 0 < l.length by omega)]; rfl
    · rw [hy] at hx; cases hx; rfl
def WorthP (x : DPolicy) (f g : Int) : Prop := (∃ m : Nat, f = m ∧ g = 0 ∧ m ≤ 10000000 ∧ x.fPremium < paidP x m ∧ ∀ d : Int, d < m → paidP x d ≤ x.fPremium) ∨ (f = 0 ∧ g = 3)
theorem WorthR.one {x : DPolicy} {w w' : World} {e : Ending} (h : WorthR x w e w') : ∃ f g : Int, WorthP x f g ∧ e = .returned (.tuple #[.int .i64 f, .int .i64 g]) ∧ Below w.heap.size w w' := by
  obtain ⟨⟨f, h1, h2, h3, rfl⟩ | rfl, hb⟩ := h
  · exact ⟨f, 0, .inl ⟨f, rfl, rfl, h1, h2, h3⟩, rfl, hb⟩
  · exact ⟨0, 3, .inr ⟨rfl, rfl⟩, rfl, hb⟩
def CrossP (x y : DPolicy) (f g : Int) : Prop := (∃ d : Nat, f = d ∧ g = 0 ∧ d ≤ 20000 ∧ costP x [(d : Int)] < costP y [(d : Int)] ∧ (0 < d → y.fPremium ≤ x.fPremium)) ∨ (f = 0 ∧ g = 3 ∧ y.fPremium ≤ x.fPremium)
theorem CrossR.one {x y : DPolicy} {w w' : World} {e : Ending} (h : CrossR x y w e w') : ∃ f g : Int, CrossP x y f g ∧ e = .returned (.tuple #[.int .i64 f, .int .i64 g]) ∧ Below w.heap.size w w' := by
  obtain ⟨⟨d, h1, h2, h3, rfl⟩ | ⟨h1, rfl⟩, hb⟩ := h
  · exact ⟨d, 0, .inl ⟨d, rfl, rfl, h1, h2, h3⟩, rfl, hb⟩
  · exact ⟨0, 3, .inr ⟨rfl, rfl, h1⟩, rfl, hb⟩
theorem PolicyList.small {l : List DPolicy} (h : PolicyList policynames l) : ∀ x ∈ l, x.fPremium ≤ 20000 ∧ x.fExcess ≤ 20000 := fun x hx => by
  have hq := h.ok x hx
  have := hq.bPremium
  have := hq.bExcess
  omega
theorem ndec {n : Nat} {b : Bool} (h : decide (0 < n) = b) : decide ((0 : Int) < (n : Int)) = b := by
  rw [← h]
  by_cases h0 : 0 < n
  · rw [decide_eq_true h0, decide_eq_true (by omega)]
  · rw [decide_eq_false h0, decide_eq_false (by omega)]
theorem bestIds_pos {l : List DPolicy} : decide (0 < (bestIds l l).length) = decide (0 < l.length) := by
  by_cases h0 : 0 < l.length
  · rw [decide_eq_true h0, decide_eq_true (bestIds_some h0)]
  · have := bestIds_le l l
    rw [decide_eq_false h0, decide_eq_false (by omega)]
set_option maxRecDepth 100000 in
set_option maxHeartbeats 8000000 in
theorem w_Insurance (A0 : Option Addr) (n0 c0 : Nat) (l0 : List UInt8) (A1 : Option Addr) (n1 c1 : Nat) (l1 : List UInt8) (w : World) (hr0 : Rd byteE w A0 n0 l0) (hn0 : n0 ≤ maxLen) (hg0 : ∀ x ∈ l0, (0 : Int) ≤ (x.toNat : Int)) (hr1 : Rd byteE w A1 n1 l1) (hn1 : n1 ≤ maxLen) (hg1 : ∀ x ∈ l1, (0 : Int) ≤ (x.toNat : Int)) (hL : LibW w) :
    Calls Tryz.prog 3 #[.slice A0 n0 c0, .slice A1 n1 c1] w (RetB true w) := by
  obtain ⟨i0, hi, hz0, hz1, hz2⟩ := info_parts Tryz.info_int
  have HZ := Lib.hid (And.intro hz1 hz2)
  clear hz1 hz2
  clear hg0 hg1
  go_enter Tryz.func3, Tryz.ntmps3
  go_wp2_with fail
  refine (l_r8Long A0 A1 n0 c0 n1 c1 _ hn0 hn1).mono ?_
  rintro e w' ⟨rfl, rfl⟩
  rcases hlong : (decide (1048576 < n0) || decide (1048576 < n1)) with _ | _
  rotate_left
  · clear hlong
    go_wp2
    go_ret
    exact ⟨rfl, Below.refl _ _⟩
  have hs0 : n0 ≤ 1048576 ∧ n1 ≤ 1048576 := by
    rw [Bool.or_eq_false_iff, decide_eq_false_iff_not, decide_eq_false_iff_not] at hlong
    omega
  clear hlong
  go_wp2_with fail
  refine (s_R8Policies A0 n0 c0 l0 w hr0 hs0.1).mono ?_
  rintro e w1 ⟨A, n, c, l, hql, hl, hn4, rfl, hgl, hB⟩
  have HQL := Lib.hid hql
  have HO := Lib.hid hql.okAll
  have HL := Lib.hid hl
  have HR1 := Lib.hid hgl.rd
  have HB1 := Lib.hid hB
  clear hql hl hgl hB
  have HG0 : Hid (GL intE 2 w1.heap.size (w1.alloc (.cells #[] 2)) (.slice (some ⟨w1.heap.size, 0, none⟩) 0 0) []) := Lib.hid (GL.mk0 (Nat.le_refl _))
  have hbS : Below w1.heap.size w1 (w1.alloc (.cells #[] 2)) := (Below.refl _ _).alloc (Nat.le_refl _) _
  as_aux_lemma =>
    go_wp2_with fail
    go_loopw [6, 7] (fun v i wr => ∃ (m : Nat) (AD : Option Addr) (cD : Nat) (ds : List Int), m ≤ 4 ∧ i = .int .i64 m ∧ v = .slice AD m cD ∧ Hid (∀ d ∈ ds, 0 ≤ d ∧ d ≤ 10000000) ∧ Hid (GL intE 2 w1.heap.size wr (.slice AD m cD) ds) ∧ Below w1.heap.size w1 wr) (fun _ i _ => 5 - (intOf i).toNat)
    case atStart => exact ⟨0, _, 0, [], by omega, rfl, rfl, Lib.hid (fun d hd => by cases hd), HG0, hbS⟩
    case round =>
      obtain ⟨m, AD, cD, ds, hm, rfl, rfl, HDS, HG, hb⟩ := hrel
      clear HG0 hbS
      have hrW := hr1.below (HB1.out.trans (hb.mono HB1.out.size))
      go_wp2_with fail
      refine (l_r8At A1 n1 c1 l1 0 5 wr hrW hn1 (by omega) (by omega) (by omega)).mono ?_
      rintro e w' ⟨r, hr5, hr255, rfl, rfl⟩
      by_cases hlt : m < r
      · have hW := l_r8Wide A1 n1 c1 l1 (1 + 2 * m) 2000 wr hrW hn1 (by omega) (by omega) (by omega)
        rw [show ((1 + 2 * m : Nat) : Int) = 1 + 2 * (m : Int) by push_cast; rfl] at hW
        clear hrW hr255
        go_wp2_with fail
        refine hW.mono ?_
        clear hW
        rintro e w' ⟨q, hq, rfl, rfl⟩
        have hgl := HG.out
        clear HG
        go_wp2_with (at_builtin; refine wpList_pushO intE rfl _ _ 26 rfl w1.heap.size 2 i0 _ 8 Tryz.underlying26 hi hz0 HZ.out.1 HZ.out.2 rfl AD m cD ds (10 * (q : Int)) rfl (hgl.alloc _) wr.heap.size rfl (range_new _ _ _) (by omega) (by decide) (by have := hb.size; simp; omega) ?_; intro A2 c2 w4 hgl4 ht4 _)
        have HG4 := Lib.hid hgl4
        have HD4 : Hid (∀ d ∈ ds ++ [10 * (q : Int)], 0 ≤ d ∧ d ≤ 10000000) := Lib.hid fun d hd => by
          rcases List.mem_append.1 hd with h | h
          · exact HDS.out d h
          · rw [List.mem_singleton] at h; subst h; omega
        have hb4 : Below w1.heap.size w1 w4 := Below.touch (hb.alloc hb.size _) ht4 (fun q hq => (hgl.lt q hq).1) (by have := hb.size; simp; omega)
        clear hgl hgl4 ht4 HDS
        go_wp2
        first | (refine ⟨⟨m + 1, A2, c2, ds ++ [10 * (q : Int)], by omega, by go_num, rfl, HD4, HG4, hb4⟩, ?_⟩; (simp [intOf]; omega)) | (go_roundw; (case rel => first | exact ⟨m + 1, A2, c2, ds ++ [10 * (q : Int)], by omega, by go_num, rfl, HD4, HG4, hb4⟩ | ((try refine ⟨trivial, ?_⟩); (repeat apply Exists.intro); exact ⟨⟨m + 1, A2, c2, ds ++ [10 * (q : Int)], by omega, by go_num, rfl, HD4, HG4, hb4⟩, rfl⟩)); (case measure => (simp [intOf]; omega)))
      · obtain ⟨w2, hw2⟩ : ∃ w2 : World, w2 = wr := ⟨_, rfl⟩
        subst hw2
        have HD : Hid (Dams ds) := Lib.hid ⟨HDS.out, by have := HG.out.len; omega⟩
        have HRD2 := Lib.hid HG.out.rd
        have HR2 := Lib.hid (HR1.out.below hb)
        have HB2 := Lib.hid (HB1.out.trans (hb.mono HB1.out.size))
        clear HDS HG HR1 HB1 hb hr5 hr255 hrW
        as_aux_lemma =>
          go_wp2_with fail
          clear hlt
          refine (i_BestPolicy A n c l AD m cD ds w2 HR2.out HO.out HRD2.out HD.out).mono ?_
          rintro e w3 hch
          obtain ⟨q, R, a, hq, rfl, hb3⟩ := hch.one HO.out.few
          clear hch
          as_aux_lemma =>
            go_wp2_with fail
            refine (i_Unbeaten A n c l w3 (HR2.out.below hb3) HO.out).mono ?_
            rintro e w4 ⟨AN, nN, cN, hlN, hnN, hoN, rfl, hb4⟩
            have HRN4 : Hid (Rd strE w4 AN nN (bestIds l l)) := Lib.hid (Rd.of_own hoN hlN)
            replace hb3 := hb3.trans (hb4.mono hb3.size)
            have HLN := Lib.hid hlN
            have HQ := Lib.hid hq
            obtain ⟨b0, hb0⟩ : ∃ b0, decide (0 < n) = b0 := ⟨_, rfl⟩
            have ha : (a == 0) = b0 := by rw [hq.ok, HL.out, hb0]
            have hb0n : decide (0 < nN) = b0 := by rw [← hlN, bestIds_pos, HL.out, hb0]
            have hb0i := ndec hb0
            have hb0ni := ndec hb0n
            have HA := Lib.hid ha
            have HB0 := Lib.hid hb0
            have hq12 := hq.small
            have hbb : (b0 != b0) = false := by cases b0 <;> rfl
            have hV := fun W hb => i_ValidPolicies_yes A n c l W (HR2.out.below hb) HO.out
            clear hq hoN hlN hb4
            as_aux_lemma =>
              go_wp2_with fail
              refine (hV _ hb3).mono ?_
              rintro e w5 ⟨rfl, hb5⟩
              have HRN := Lib.hid (HRN4.out.below hb5)
              replace hb3 := hb3.trans (hb5.mono hb3.size)
              have HB := Lib.hid (HB2.out.trans (hb3.mono HB2.out.size))
              have HR := Lib.hid (HR2.out.below hb3)
              have HRD := Lib.hid (HRD2.out.below hb3)
              clear hV hb5 hb3 HRN4 HR2 HRD2 HB2
              as_aux_lemma =>
                go_wp2_with fail
                clear hbb ha hb0 hb0n hb0i hb0ni
                go_loopw [13] (fun i wr => ∃ k : Nat, k ≤ n ∧ i = .int .i64 k ∧ Below w5.heap.size w5 wr) (fun i _ => n - (intOf i).toNat)
                case atStart => exact ⟨0, Nat.zero_le _, rfl, Below.refl _ _⟩
                case round =>
                  obtain ⟨k, hk, rfl, hb⟩ := hrel
                  by_cases hlt : k < n
                  · skip
                    as_aux_lemma =>
                      obtain ⟨b, off, rfl, hcs⟩ := HR.out.2 (by omega)
                      obtain ⟨x, hx⟩ : ∃ x, l[k]? = some x := ⟨_, List.getElem?_eq_getElem (by have := HL.out; omega)⟩
                      have hcr := range_below (B := 0) (hcs k x hx) hb
                      have hc0 := hcr 0 _ rfl
                      have hc1 := hcr 1 _ rfl
                      have hc2 := hcr 2 _ rfl
                      have hc3 := hcr 3 _ rfl
                      have hc4 := hcr 4 _ rfl
                      simp only [policyE, Nat.add_zero] at hc0 hc1 hc2 hc3 hc4
                      have HM := Lib.hid (mem_of_get hx)
                      have HOK := Lib.hid (HO.out.ok x HM.out)
                      have HSZ := Lib.hid (HO.out.sz x HM.out)
                      have HLE := Lib.hid (HQ.out.least x HM.out)
                      have HAT := Lib.hid (show q = k → costP x ds = R from fun h => HQ.out.at_ x (h ▸ hx))
                      have HPB := Lib.hid (PB.of HOK.out)
                      have HCS := Lib.hid hcs
                      have K1 : Hid (∀ W, Below w5.heap.size w5 W → Calls Tryz.prog 11 #[.agg #[.string x.fId, .int .i64 x.fPremium, .int .i64 x.fShare, .int .i64 x.fExcess, .int .i64 x.fMost], .slice AD m cD] W fun e w' => e = .returned (.tuple #[.int .i64 (costP x ds), .int .i64 0]) ∧ Below W.heap.size W w') := Lib.hid fun W hb => i_YearCost x AD m cD ds W HOK.out HSZ.out (HRD.out.below hb) HD.out
                      have K4 : Hid (∀ W, LibW W → Calls Tryz.prog 14 #[.agg #[.string x.fId, .int .i64 x.fPremium, .int .i64 x.fShare, .int .i64 x.fExcess, .int .i64 x.fMost]] W fun e w' => e = .returned (.string (txPolicy x)) ∧ Below W.heap.size W w') := Lib.hid fun W h => i_PolicyText_yes x W HOK.out HSZ.out h
                      have K5 : Hid (∀ W, LibW W → Calls Tryz.prog 13 #[.string (txPolicy x)] W fun e w' => e = .returned (.tuple #[.agg #[.string x.fId, .int .i64 x.fPremium, .int .i64 x.fShare, .int .i64 x.fExcess, .int .i64 x.fMost], .bool true]) ∧ Below W.heap.size W w') := Lib.hid fun W h => (I_ReadPolicy (txPolicy x) W (by have := (read_txPolicy HOK.out).2.2; omega) h).mono (by
                        rintro e w' ⟨y, hy, rfl, hb⟩
                        obtain ⟨h1, h2, _⟩ := read_txPolicy HOK.out
                        have hyx : y = x := hy.out.trans h1
                        subst hyx
                        exact ⟨by rw [h2], hb⟩)
                      obtain ⟨TX, hTX⟩ : ∃ TX, txPolicy x = TX := ⟨_, rfl⟩
                      rw [hTX] at K4 K5
                      obtain ⟨C, hCC⟩ : ∃ C, costP x ds = C := ⟨_, rfl⟩
                      rw [hCC] at K1 HLE HAT
                      have HCC := Lib.hid hCC
                      clear hTX hcr hx hcs hCC
                      have hcx := range_new wr #[.string x.fId, .int .i64 x.fPremium, .int .i64 x.fShare, .int .i64 x.fExcess, .int .i64 x.fMost] 35
                      have hb0 : Below w5.heap.size w5 (wr.alloc (.cells #[.string x.fId, .int .i64 x.fPremium, .int .i64 x.fShare, .int .i64 x.fExcess, .int .i64 x.fMost] 35)) := hb.alloc hb.size _
                      obtain ⟨W0, hW0⟩ : ∃ W0, wr.alloc (.cells #[.string x.fId, .int .i64 x.fPremium, .int .i64 x.fShare, .int .i64 x.fExcess, .int .i64 x.fMost] 35) = W0 := ⟨_, rfl⟩
                      rw [hW0] at hb0 hcx
                      have hx0 := hcx 0 _ rfl
                      have hx1 := hcx 1 _ rfl
                      have hx2 := hcx 2 _ rfl
                      have hx3 := hcx 3 _ rfl
                      have hx4 := hcx 4 _ rfl
                      simp only [Nat.zero_add] at hx0 hx1 hx2 hx3 hx4
                      clear hcx
                      go_wp2_with fail
                      try rw [hW0]
                      clear hW0
                      obtain ⟨bx, hbx⟩ : ∃ bx, wr.heap.size = bx := ⟨_, rfl⟩
                      rw [hbx] at hx0 hx1 hx2 hx3 hx4 ⊢
                      clear hbx hb
                      refine (K1.out _ hb0).mono ?_
                      rintro e w6 ⟨rfl, hb6⟩
                      replace hx0 := cell_later hb6 hx0
                      replace hx1 := cell_later hb6 hx1
                      replace hx2 := cell_later hb6 hx2
                      replace hx3 := cell_later hb6 hx3
                      replace hx4 := cell_later hb6 hx4
                      replace hb0 := hb0.trans (hb6.mono hb0.size)
                      clear hb6 K1 hc0 hc1 hc2 hc3 hc4
                      as_aux_lemma =>
                        have hW := l_r8Wide A1 n1 c1 l1 20 3000 w6 (hr1.below (HB.out.trans (hb0.mono HB.out.size))) hn1 (by omega) (by omega) (by omega)
                        go_wp2_with fail
                        refine hW.mono ?_
                        clear hW
                        rintro e w' ⟨r, hr3, rfl, rfl⟩
                        have K2 : Hid (∀ W, Calls Tryz.prog 12 #[.agg #[.string x.fId, .int .i64 x.fPremium, .int .i64 x.fShare, .int .i64 x.fExcess, .int .i64 x.fMost], .int .i64 (10 * (r : Int))] W fun e w' => e = .returned (.tuple #[.int .i64 (paidP x (10 * (r : Int))), .int .i64 0]) ∧ Below W.heap.size W w') := Lib.hid fun W => i_PaidFor x _ W HOK.out HSZ.out (by omega) (by omega)
                        have K3 : Hid (∀ W, Calls Tryz.prog 12 #[.agg #[.string x.fId, .int .i64 x.fPremium, .int .i64 x.fShare, .int .i64 x.fExcess, .int .i64 x.fMost], .int .i64 (10 * (r : Int) + 10)] W fun e w' => e = .returned (.tuple #[.int .i64 (paidP x (10 * (r : Int) + 10)), .int .i64 0]) ∧ Below W.heap.size W w') := Lib.hid fun W => i_PaidFor x _ W HOK.out HSZ.out (by omega) (by omega)
                        have hp1 := HPB.out.paid (10 * (r : Int)) (by omega)
                        have hp2 := HPB.out.paid_mono (d := 10 * (r : Int)) (d' := 10 * (r : Int) + 10) (by omega)
                        obtain ⟨p, hp⟩ : ∃ p, paidP x (10 * (r : Int)) = p := ⟨_, rfl⟩
                        obtain ⟨p', hp'⟩ : ∃ p, paidP x (10 * (r : Int) + 10) = p := ⟨_, rfl⟩
                        rw [hp] at K2 hp1 hp2
                        rw [hp'] at K3 hp2
                        clear hp hp'
                        have HP1 := Lib.hid hp1
                        have HP2 := Lib.hid hp2
                        clear hp1 hp2
                        go_wp2_with fail
                        refine (K2.out _).mono ?_
                        rintro e w7 ⟨rfl, hb7⟩
                        replace hx0 := cell_later hb7 hx0
                        replace hx1 := cell_later hb7 hx1
                        replace hx2 := cell_later hb7 hx2
                        replace hx3 := cell_later hb7 hx3
                        replace hx4 := cell_later hb7 hx4
                        replace hb0 := hb0.trans (hb7.mono hb0.size)
                        clear hb7 K2
                        as_aux_lemma =>
                          go_wp2_with fail
                          refine (K3.out _).mono ?_
                          rintro e w8 ⟨rfl, hb8⟩
                          replace hx0 := cell_later hb8 hx0
                          replace hx1 := cell_later hb8 hx1
                          replace hx2 := cell_later hb8 hx2
                          replace hx3 := cell_later hb8 hx3
                          replace hx4 := cell_later hb8 hx4
                          replace hb0 := hb0.trans (hb8.mono hb0.size)
                          clear hb8 K3
                          as_aux_lemma =>
                            go_wp2_with fail
                            refine (K4.out _ (hL.below (HB.out.trans (hb0.mono HB.out.size)))).mono ?_
                            rintro e w9 ⟨rfl, hb9⟩
                            replace hx0 := cell_later hb9 hx0
                            replace hx1 := cell_later hb9 hx1
                            replace hx2 := cell_later hb9 hx2
                            replace hx3 := cell_later hb9 hx3
                            replace hx4 := cell_later hb9 hx4
                            replace hb0 := hb0.trans (hb9.mono hb0.size)
                            clear hb9 K4
                            as_aux_lemma =>
                              go_wp2_with fail
                              refine (K5.out _ (hL.below (HB.out.trans (hb0.mono HB.out.size)))).mono ?_
                              rintro e w10 ⟨rfl, hb10⟩
                              replace hx0 := cell_later hb10 hx0
                              replace hx1 := cell_later hb10 hx1
                              replace hx2 := cell_later hb10 hx2
                              replace hx3 := cell_later hb10 hx3
                              replace hx4 := cell_later hb10 hx4
                              replace hb0 := hb0.trans (hb10.mono hb0.size)
                              clear hb10 K5
                              as_aux_lemma =>
                                have hne := fun W => run_neq_Policy x x W
                                have hxx : x.eqv x = true := (DPolicy.eqv_iff x x).2 rfl
                                rw [hxx] at hne
                                have hcy := range_new w10 #[.string x.fId, .int .i64 x.fPremium, .int .i64 x.fShare, .int .i64 x.fExcess, .int .i64 x.fMost] 35
                                have hby : Below w10.heap.size w10 (w10.alloc (.cells #[.string x.fId, .int .i64 x.fPremium, .int .i64 x.fShare, .int .i64 x.fExcess, .int .i64 x.fMost] 35)) := (Below.refl _ _).alloc (Nat.le_refl _) _
                                go_upto_region 22 with fail
                                obtain ⟨W11, hW11⟩ : ∃ W11, w10.alloc (.cells #[.string x.fId, .int .i64 x.fPremium, .int .i64 x.fShare, .int .i64 x.fExcess, .int .i64 x.fMost] 35) = W11 := ⟨_, rfl⟩
                                rw [hW11] at hcy hby
                                rw [hW11]
                                clear hW11
                                replace hx0 := cell_later hby hx0
                                replace hx1 := cell_later hby hx1
                                replace hx2 := cell_later hby hx2
                                replace hx3 := cell_later hby hx3
                                replace hx4 := cell_later hby hx4
                                replace hb0 := hb0.trans (hby.mono hb0.size)
                                have hy0 := hcy 0 _ rfl
                                have hy1 := hcy 1 _ rfl
                                have hy2 := hcy 2 _ rfl
                                have hy3 := hcy 3 _ rfl
                                have hy4 := hcy 4 _ rfl
                                simp only [Nat.zero_add] at hy0 hy1 hy2 hy3 hy4
                                clear hcy hby
                                go_cut [192] (fun s192 wx => s192 = .bool false ∧ wx = W11)
                                case first =>
                                  have hp1 := HP1.out
                                  have hp2 := HP2.out
                                  have q4 : ¬ C < R := by have := HLE.out; omega
                                  have q5 : ¬ p < 0 := by omega
                                  have q6 : ¬ x.fMost < p := by omega
                                  have q7 : ¬ 10 * (r : Int) < p := by omega
                                  have q8 : ¬ p' < p := by omega
                                  have d4 := decide_eq_false q4
                                  have d5 := decide_eq_false q5
                                  have d6 := decide_eq_false q6
                                  have d7 := decide_eq_false q7
                                  have d8 := decide_eq_false q8
                                  by_cases hqk : q = k
                                  · skip
                                    as_aux_lemma =>
                                      have r1 : ((k : Int) == (q : Int)) = true := by rw [hqk]; simp
                                      have r2 : (C != R) = false := by rw [HAT.out hqk]; simp
                                      clear hqk HAT HLE hp1 hp2 HP1 HP2
                                      go_wp2
                                      go_meet
                                      case rel => exact ⟨rfl, rfl⟩
                                  · skip
                                    as_aux_lemma =>
                                      have r1 : ((k : Int) == (q : Int)) = false := by rw [beq_eq_false_iff_ne]; omega
                                      clear hqk HAT HLE hp1 hp2 HP1 HP2
                                      go_wp2
                                      go_meet
                                      case rel => exact ⟨rfl, rfl⟩
                                case rest =>
                                  obtain ⟨rfl, rfl⟩ := hcut
                                  as_aux_lemma =>
                                    clear hne hxx hy0 hy1 hy2 hy3 hy4 HP1 HP2 HLE HAT HQ hr3
                                    have hcW := fun W => i_WorthFrom x W HOK.out HSZ.out
                                    go_wp2_with fail
                                    refine (hcW _).mono ?_
                                    rintro e w12 hmr
                                    obtain ⟨f, g, hWP, rfl, hb12⟩ := hmr.one
                                    replace hx0 := cell_later hb12 hx0
                                    replace hx1 := cell_later hb12 hx1
                                    replace hx2 := cell_later hb12 hx2
                                    replace hx3 := cell_later hb12 hx3
                                    replace hx4 := cell_later hb12 hx4
                                    replace hb0 := hb0.trans (hb12.mono hb0.size)
                                    have HWP := Lib.hid hWP
                                    clear hmr hWP hcW hb12
                                    as_aux_lemma =>
                                      go_upto_if 199 with fail
                                      go_cut [26, 27, 28, 29] (fun s26 s27 s28 s29 wx => Below w5.heap.size w5 wx ∧ Hid (wx.cell? ⟨bx, 0, none⟩ = some (.string x.fId) ∧ wx.cell? ⟨bx, 1, none⟩ = some (.int .i64 x.fPremium) ∧ wx.cell? ⟨bx, 2, none⟩ = some (.int .i64 x.fShare) ∧ wx.cell? ⟨bx, 3, none⟩ = some (.int .i64 x.fExcess) ∧ wx.cell? ⟨bx, 4, none⟩ = some (.int .i64 x.fMost)))
                                      case first =>
                                        rcases HWP.out with ⟨f, rfl, rfl, hf, hpf, hall⟩ | ⟨rfl, rfl⟩
                                        · skip
                                          as_aux_lemma =>
                                            have J1 := fun W => s_PaidFor_yes x (f : Int) W HOK.out HSZ.out (by omega) (by omega)
                                            have t1 : ¬ paidP x (f : Int) ≤ x.fPremium := by omega
                                            obtain ⟨p1, hp1⟩ : ∃ p1, paidP x (f : Int) = p1 := ⟨_, rfl⟩
                                            rw [hp1] at J1 t1
                                            clear hp1 hpf
                                            by_cases hf0 : f = 0
                                            · subst hf0
                                              have J2 := fun W => s_PaidFor_no x (-1) W HOK.out HSZ.out rfl
                                              clear hall
                                              go_wp2_with fail
                                              refine (J1 _).mono ?_
                                              rintro e w13 ⟨rfl, hb13⟩
                                              replace hx0 := cell_later hb13 hx0
                                              replace hx1 := cell_later hb13 hx1
                                              replace hx2 := cell_later hb13 hx2
                                              replace hx3 := cell_later hb13 hx3
                                              replace hx4 := cell_later hb13 hx4
                                              replace hb0 := hb0.trans (hb13.mono hb0.size)
                                              clear hb13 J1
                                              go_wp2_with fail
                                              refine (J2 _).mono ?_
                                              rintro e w13 ⟨rfl, hb13⟩
                                              replace hx0 := cell_later hb13 hx0
                                              replace hx1 := cell_later hb13 hx1
                                              replace hx2 := cell_later hb13 hx2
                                              replace hx3 := cell_later hb13 hx3
                                              replace hx4 := cell_later hb13 hx4
                                              replace hb0 := hb0.trans (hb13.mono hb0.size)
                                              clear hb13 J2
                                              go_wp2
                                              go_meet
                                              case rel => exact ⟨hb0, Lib.hid ⟨hx0, hx1, hx2, hx3, hx4⟩⟩
                                            · have J2 := fun W => s_PaidFor_yes x ((f : Int) - 1) W HOK.out HSZ.out (by omega) (by omega)
                                              have t2 : ¬ x.fPremium < paidP x ((f : Int) - 1) := by have := hall ((f : Int) - 1) (by omega); omega
                                              obtain ⟨p2, hp2⟩ : ∃ p2, paidP x ((f : Int) - 1) = p2 := ⟨_, rfl⟩
                                              rw [hp2] at J2 t2
                                              clear hp2 hall
                                              go_wp2_with fail
                                              refine (J1 _).mono ?_
                                              rintro e w13 ⟨rfl, hb13⟩
                                              replace hx0 := cell_later hb13 hx0
                                              replace hx1 := cell_later hb13 hx1
                                              replace hx2 := cell_later hb13 hx2
                                              replace hx3 := cell_later hb13 hx3
                                              replace hx4 := cell_later hb13 hx4
                                              replace hb0 := hb0.trans (hb13.mono hb0.size)
                                              clear hb13 J1
                                              go_wp2_with fail
                                              refine (J2 _).mono ?_
                                              rintro e w13 ⟨rfl, hb13⟩
                                              replace hx0 := cell_later hb13 hx0
                                              replace hx1 := cell_later hb13 hx1
                                              replace hx2 := cell_later hb13 hx2
                                              replace hx3 := cell_later hb13 hx3
                                              replace hx4 := cell_later hb13 hx4
                                              replace hb0 := hb0.trans (hb13.mono hb0.size)
                                              clear hb13 J2
                                              go_wp2
                                              go_meet
                                              case rel => exact ⟨hb0, Lib.hid ⟨hx0, hx1, hx2, hx3, hx4⟩⟩
                                        · skip
                                          as_aux_lemma =>
                                            go_wp2
                                            go_meet
                                            case rel => exact ⟨hb0, Lib.hid ⟨hx0, hx1, hx2, hx3, hx4⟩⟩
                                      case rest =>
                                        obtain ⟨hbc, HXc⟩ := hcut
                                        clear HWP hb0 hx0 hx1 hx2 hx3 hx4
                                        as_aux_lemma =>
                                          go_wp2_with fail
                                          go_loopw [30, 31] (fun v i wr => ∃ j : Nat, j ≤ n ∧ i = .int .i64 j ∧ v = .bool ((l.take j).any fun y => beatsB y x) ∧ Below wc.heap.size wc wr) (fun _ i _ => n - (intOf i).toNat)
                                          case atStart => exact ⟨0, Nat.zero_le _, rfl, rfl, Below.refl _ _⟩
                                          case round =>
                                            obtain ⟨j, hj, rfl, rfl, hbi⟩ := hrel
                                            obtain ⟨ha0, ha1, ha2, ha3, ha4⟩ := HXc.out
                                            have hx0 := cell_later hbi ha0
                                            have hx1 := cell_later hbi ha1
                                            have hx2 := cell_later hbi ha2
                                            have hx3 := cell_later hbi ha3
                                            have hx4 := cell_later hbi ha4
                                            clear ha0 ha1 ha2 ha3 ha4
                                            have hbT := hbc.trans (hbi.mono hbc.size)
                                            by_cases hjn : j < n
                                            · skip
                                              as_aux_lemma =>
                                                obtain ⟨y, hy⟩ : ∃ y, l[j]? = some y := ⟨_, List.getElem?_eq_getElem (by have := HL.out; omega)⟩
                                                have HMy := Lib.hid (mem_of_get hy)
                                                have hcr := range_below (B := 0) (HCS.out j y hy) hbT
                                                have hy0 := hcr 0 _ rfl
                                                have hy1 := hcr 1 _ rfl
                                                have hy2 := hcr 2 _ rfl
                                                have hy3 := hcr 3 _ rfl
                                                have hy4 := hcr 4 _ rfl
                                                simp only [policyE, Nat.add_zero] at hy0 hy1 hy2 hy3 hy4
                                                have HS : Hid (((l.take (j + 1)).any fun y => beatsB y x) = (((l.take j).any fun y => beatsB y x) || beatsB y x)) := Lib.hid (by rw [take_of_get hy, List.any_append]; simp)
                                                have hBt := fun W => i_BeatsOther y x W (HO.out.ok y HMy.out) HOK.out (HO.out.sz y HMy.out) HSZ.out
                                                have hBu := fun W => i_BeatsOther x y W HOK.out (HO.out.ok y HMy.out) HSZ.out (HO.out.sz y HMy.out)
                                                have hYc : Hid (∀ W, Below w5.heap.size w5 W → Calls Tryz.prog 18 #[.agg #[.string y.fId, .int .i64 y.fPremium, .int .i64 y.fShare, .int .i64 y.fExcess, .int .i64 y.fMost], .slice AD m cD] W fun e w' => e = .returned (.tuple #[.int .i64 (costP y ds), .int .i64 0]) ∧ Below W.heap.size W w') := Lib.hid fun W hb => s_YearCost y AD m cD ds W (HO.out.ok y HMy.out) (HO.out.sz y HMy.out) (HRD.out.below hb) HD.out
                                                have HW : Hid (beatsB y x = true → costP y ds ≤ C ∧ beatsB x y = false) := Lib.hid fun h => ⟨by have := beats_cost (HO.out.pb y HMy.out) HPB.out h ds; rw [HCC.out] at this; exact this, beats_not h⟩
                                                obtain ⟨D, hDD⟩ : ∃ D, costP y ds = D := ⟨_, rfl⟩
                                                rw [hDD] at hYc HW
                                                obtain ⟨v, hv⟩ : ∃ v, beatsB y x = v := ⟨_, rfl⟩
                                                rw [hv] at HS hBt HW
                                                clear hcr hy hv hDD
                                                go_wp2_with fail
                                                go_region_held3 (fun w' => (w'.cell? ⟨bx, 0, none⟩ = some (.string x.fId) ∧ w'.cell? ⟨bx, 1, none⟩ = some (.int .i64 x.fPremium) ∧ w'.cell? ⟨bx, 2, none⟩ = some (.int .i64 x.fShare) ∧ w'.cell? ⟨bx, 3, none⟩ = some (.int .i64 x.fExcess) ∧ w'.cell? ⟨bx, 4, none⟩ = some (.int .i64 x.fMost)) ∧ (w'.cell? ⟨b, off + j * 5, none⟩ = some (.string y.fId) ∧ w'.cell? ⟨b, off + j * 5 + 1, none⟩ = some (.int .i64 y.fPremium) ∧ w'.cell? ⟨b, off + j * 5 + 2, none⟩ = some (.int .i64 y.fShare) ∧ w'.cell? ⟨b, off + j * 5 + 3, none⟩ = some (.int .i64 y.fExcess) ∧ w'.cell? ⟨b, off + j * 5 + 4, none⟩ = some (.int .i64 y.fMost)) ∧ Below wc.heap.size wc w')
                                                  (first | exact ⟨⟨hx0, hx1, hx2, hx3, hx4⟩, ⟨hy0, hy1, hy2, hy3, hy4⟩, hbi.drew⟩
                                                         | (go_split_ands; exact ⟨⟨cell_later hb2 (by assumption), cell_later hb2 (by assumption), cell_later hb2 (by assumption), cell_later hb2 (by assumption), cell_later hb2 (by assumption)⟩, ⟨cell_later hb2 (by assumption), cell_later hb2 (by assumption), cell_later hb2 (by assumption), cell_later hb2 (by assumption), cell_later hb2 (by assumption)⟩, Below.trans (by assumption) (hb2.mono (Below.size (by assumption)))⟩))
                                                  (first | (go_at_call 17; go_split_ands; refine (hBt _).mono ?_; rintro e w2 ⟨rfl, hb2⟩))
                                                rename_i hh
                                                obtain ⟨⟨ex0, ex1, ex2, ex3, ex4⟩, ⟨ey0, ey1, ey2, ey3, ey4⟩, hbE⟩ := hh
                                                clear hBt hx0 hx1 hx2 hx3 hx4 hy0 hy1 hy2 hy3 hy4 hbi hbT
                                                rcases v with _ | _
                                                · skip
                                                  as_aux_lemma =>
                                                    clear HW hBu
                                                    have hbF := hbc.trans (hbE.mono hbc.size)
                                                    rcases hbv : (l.take j).any (fun y => beatsB y x) with _ | _
                                                    · skip
                                                      rw [hbv, Bool.false_or] at HS
                                                      clear hbv
                                                      go_wp2_with fail
                                                      refine (hYc.out _ hbF).mono ?_
                                                      rintro e w13 ⟨rfl, hb13⟩
                                                      replace ex0 := cell_later hb13 ex0
                                                      replace ex1 := cell_later hb13 ex1
                                                      replace ex2 := cell_later hb13 ex2
                                                      replace ex3 := cell_later hb13 ex3
                                                      replace ex4 := cell_later hb13 ex4
                                                      replace ey0 := cell_later hb13 ey0
                                                      replace ey1 := cell_later hb13 ey1
                                                      replace ey2 := cell_later hb13 ey2
                                                      replace ey3 := cell_later hb13 ey3
                                                      replace ey4 := cell_later hb13 ey4
                                                      replace hbE := hbE.trans (hb13.mono hbE.size)
                                                      clear hYc hb13 hbF
                                                      go_wp2_with fail
                                                      go_quiet (fail)
                                                      go_wp2
                                                      first | (refine ⟨⟨j + 1, by omega, by go_num, by rw [HS.out], below_drewN hbE _⟩, ?_⟩; (simp [intOf]; omega)) | (go_roundw; (case rel => first | exact ⟨j + 1, by omega, by go_num, by rw [HS.out], below_drewN hbE _⟩ | ((try refine ⟨trivial, ?_⟩); (repeat apply Exists.intro); exact ⟨⟨j + 1, by omega, by go_num, by rw [HS.out], below_drewN hbE _⟩, rfl⟩)); (case measure => (simp [intOf]; omega)))
                                                    · skip
                                                      rw [hbv, Bool.true_or] at HS
                                                      clear hbv
                                                      go_wp2_with fail
                                                      refine (hYc.out _ hbF).mono ?_
                                                      rintro e w13 ⟨rfl, hb13⟩
                                                      replace ex0 := cell_later hb13 ex0
                                                      replace ex1 := cell_later hb13 ex1
                                                      replace ex2 := cell_later hb13 ex2
                                                      replace ex3 := cell_later hb13 ex3
                                                      replace ex4 := cell_later hb13 ex4
                                                      replace ey0 := cell_later hb13 ey0
                                                      replace ey1 := cell_later hb13 ey1
                                                      replace ey2 := cell_later hb13 ey2
                                                      replace ey3 := cell_later hb13 ey3
                                                      replace ey4 := cell_later hb13 ey4
                                                      replace hbE := hbE.trans (hb13.mono hbE.size)
                                                      clear hYc hb13 hbF
                                                      go_wp2_with fail
                                                      go_quiet (fail)
                                                      go_wp2
                                                      first | (refine ⟨⟨j + 1, by omega, by go_num, by rw [HS.out], below_drewN hbE _⟩, ?_⟩; (simp [intOf]; omega)) | (go_roundw; (case rel => first | exact ⟨j + 1, by omega, by go_num, by rw [HS.out], below_drewN hbE _⟩ | ((try refine ⟨trivial, ?_⟩); (repeat apply Exists.intro); exact ⟨⟨j + 1, by omega, by go_num, by rw [HS.out], below_drewN hbE _⟩, rfl⟩)); (case measure => (simp [intOf]; omega)))
                                                · skip
                                                  as_aux_lemma =>
                                                    obtain ⟨hCD, hxy⟩ := HW.out rfl
                                                    rw [hxy] at hBu
                                                    have t1 : ¬ C < D := by omega
                                                    have t2 : decide (C < D) = false := decide_eq_false t1
                                                    clear HW hxy hCD
                                                    have hbF := hbc.trans (hbE.mono hbc.size)
                                                    rcases hbv : (l.take j).any (fun y => beatsB y x) with _ | _
                                                    · skip
                                                      rw [hbv, Bool.false_or] at HS
                                                      clear hbv
                                                      go_wp2_with fail
                                                      refine (hYc.out _ hbF).mono ?_
                                                      rintro e w13 ⟨rfl, hb13⟩
                                                      replace ex0 := cell_later hb13 ex0
                                                      replace ex1 := cell_later hb13 ex1
                                                      replace ex2 := cell_later hb13 ex2
                                                      replace ex3 := cell_later hb13 ex3
                                                      replace ex4 := cell_later hb13 ex4
                                                      replace ey0 := cell_later hb13 ey0
                                                      replace ey1 := cell_later hb13 ey1
                                                      replace ey2 := cell_later hb13 ey2
                                                      replace ey3 := cell_later hb13 ey3
                                                      replace ey4 := cell_later hb13 ey4
                                                      replace hbE := hbE.trans (hb13.mono hbE.size)
                                                      clear hYc hb13 hbF
                                                      go_wp2_with fail
                                                      go_region_held3 (fun w' => (w'.cell? ⟨bx, 0, none⟩ = some (.string x.fId) ∧ w'.cell? ⟨bx, 1, none⟩ = some (.int .i64 x.fPremium) ∧ w'.cell? ⟨bx, 2, none⟩ = some (.int .i64 x.fShare) ∧ w'.cell? ⟨bx, 3, none⟩ = some (.int .i64 x.fExcess) ∧ w'.cell? ⟨bx, 4, none⟩ = some (.int .i64 x.fMost)) ∧ (w'.cell? ⟨b, off + j * 5, none⟩ = some (.string y.fId) ∧ w'.cell? ⟨b, off + j * 5 + 1, none⟩ = some (.int .i64 y.fPremium) ∧ w'.cell? ⟨b, off + j * 5 + 2, none⟩ = some (.int .i64 y.fShare) ∧ w'.cell? ⟨b, off + j * 5 + 3, none⟩ = some (.int .i64 y.fExcess) ∧ w'.cell? ⟨b, off + j * 5 + 4, none⟩ = some (.int .i64 y.fMost)) ∧ Below wc.heap.size wc w')
                                                        (first | exact ⟨⟨ex0, ex1, ex2, ex3, ex4⟩, ⟨ey0, ey1, ey2, ey3, ey4⟩, hbE.drew⟩
                                                               | (go_split_ands; exact ⟨⟨cell_later hb2 (by assumption), cell_later hb2 (by assumption), cell_later hb2 (by assumption), cell_later hb2 (by assumption), cell_later hb2 (by assumption)⟩, ⟨cell_later hb2 (by assumption), cell_later hb2 (by assumption), cell_later hb2 (by assumption), cell_later hb2 (by assumption), cell_later hb2 (by assumption)⟩, Below.trans (by assumption) (hb2.mono (Below.size (by assumption)))⟩))
                                                        (first | (go_at_call 17; go_split_ands; refine (hBu _).mono ?_; rintro e w2 ⟨rfl, hb2⟩))
                                                      rename_i hh
                                                      obtain ⟨_, _, hbG⟩ := hh
                                                      go_wp2
                                                      first | (refine ⟨⟨j + 1, by omega, by go_num, by rw [HS.out], hbG⟩, ?_⟩; (simp [intOf]; omega)) | (go_roundw; (case rel => first | exact ⟨j + 1, by omega, by go_num, by rw [HS.out], hbG⟩ | ((try refine ⟨trivial, ?_⟩); (repeat apply Exists.intro); exact ⟨⟨j + 1, by omega, by go_num, by rw [HS.out], hbG⟩, rfl⟩)); (case measure => (simp [intOf]; omega)))
                                                    · skip
                                                      rw [hbv, Bool.true_or] at HS
                                                      clear hbv
                                                      go_wp2_with fail
                                                      refine (hYc.out _ hbF).mono ?_
                                                      rintro e w13 ⟨rfl, hb13⟩
                                                      replace ex0 := cell_later hb13 ex0
                                                      replace ex1 := cell_later hb13 ex1
                                                      replace ex2 := cell_later hb13 ex2
                                                      replace ex3 := cell_later hb13 ex3
                                                      replace ex4 := cell_later hb13 ex4
                                                      replace ey0 := cell_later hb13 ey0
                                                      replace ey1 := cell_later hb13 ey1
                                                      replace ey2 := cell_later hb13 ey2
                                                      replace ey3 := cell_later hb13 ey3
                                                      replace ey4 := cell_later hb13 ey4
                                                      replace hbE := hbE.trans (hb13.mono hbE.size)
                                                      clear hYc hb13 hbF
                                                      go_wp2_with fail
                                                      go_region_held3 (fun w' => (w'.cell? ⟨bx, 0, none⟩ = some (.string x.fId) ∧ w'.cell? ⟨bx, 1, none⟩ = some (.int .i64 x.fPremium) ∧ w'.cell? ⟨bx, 2, none⟩ = some (.int .i64 x.fShare) ∧ w'.cell? ⟨bx, 3, none⟩ = some (.int .i64 x.fExcess) ∧ w'.cell? ⟨bx, 4, none⟩ = some (.int .i64 x.fMost)) ∧ (w'.cell? ⟨b, off + j * 5, none⟩ = some (.string y.fId) ∧ w'.cell? ⟨b, off + j * 5 + 1, none⟩ = some (.int .i64 y.fPremium) ∧ w'.cell? ⟨b, off + j * 5 + 2, none⟩ = some (.int .i64 y.fShare) ∧ w'.cell? ⟨b, off + j * 5 + 3, none⟩ = some (.int .i64 y.fExcess) ∧ w'.cell? ⟨b, off + j * 5 + 4, none⟩ = some (.int .i64 y.fMost)) ∧ Below wc.heap.size wc w')
                                                        (first | exact ⟨⟨ex0, ex1, ex2, ex3, ex4⟩, ⟨ey0, ey1, ey2, ey3, ey4⟩, hbE.drew⟩
                                                               | (go_split_ands; exact ⟨⟨cell_later hb2 (by assumption), cell_later hb2 (by assumption), cell_later hb2 (by assumption), cell_later hb2 (by assumption), cell_later hb2 (by assumption)⟩, ⟨cell_later hb2 (by assumption), cell_later hb2 (by assumption), cell_later hb2 (by assumption), cell_later hb2 (by assumption), cell_later hb2 (by assumption)⟩, Below.trans (by assumption) (hb2.mono (Below.size (by assumption)))⟩))
                                                        (first | (go_at_call 17; go_split_ands; refine (hBu _).mono ?_; rintro e w2 ⟨rfl, hb2⟩))
                                                      rename_i hh
                                                      obtain ⟨_, _, hbG⟩ := hh
                                                      go_wp2
                                                      first | (refine ⟨⟨j + 1, by omega, by go_num, by rw [HS.out], hbG⟩, ?_⟩; (simp [intOf]; omega)) | (go_roundw; (case rel => first | exact ⟨j + 1, by omega, by go_num, by rw [HS.out], hbG⟩ | ((try refine ⟨trivial, ?_⟩); (repeat apply Exists.intro); exact ⟨⟨j + 1, by omega, by go_num, by rw [HS.out], hbG⟩, rfl⟩)); (case measure => (simp [intOf]; omega)))
                                            · skip
                                              as_aux_lemma =>
                                                obtain rfl : n = j := by omega
                                                have E : Hid (((l.take n).any fun y => beatsB y x) = l.any fun y => beatsB y x) := Lib.hid (by rw [List.take_of_length_le (by rw [HL.out]; exact Nat.le_refl _)])
                                                rw [E.out]
                                                obtain ⟨bv, hbv⟩ : ∃ bv, (l.any fun y => beatsB y x) = bv := ⟨_, rfl⟩
                                                have HF := Lib.hid (best_found HO.out HM.out)
                                                rw [hbv] at HF ⊢
                                                have hbq : ((!bv) == bv) = false := by cases bv <;> rfl
                                                have hbq2 : (bv == !bv) = false := by cases bv <;> rfl
                                                obtain ⟨w14, hw14⟩ : ∃ w14 : World, w14 = wr := ⟨_, rfl⟩
                                                subst hw14
                                                have HX14 : Hid (w14.cell? ⟨bx, 0, none⟩ = some (.string x.fId) ∧ w14.cell? ⟨bx, 1, none⟩ = some (.int .i64 x.fPremium) ∧ w14.cell? ⟨bx, 2, none⟩ = some (.int .i64 x.fShare) ∧ w14.cell? ⟨bx, 3, none⟩ = some (.int .i64 x.fExcess) ∧ w14.cell? ⟨bx, 4, none⟩ = some (.int .i64 x.fMost)) := Lib.hid ⟨hx0, hx1, hx2, hx3, hx4⟩
                                                clear E hbv hjn hj hbi hx0 hx1 hx2 hx3 hx4 HXc hbc
                                                as_aux_lemma =>
                                                  go_wp2_with fail
                                                  clear hbq hbq2
                                                  go_loopw [35, 36] (fun v i wr => ∃ t : Nat, t ≤ nN ∧ i = .int .i64 t ∧ v = .bool (((bestIds l l).take t).any fun s => s.toList == x.fId.toList) ∧ Below w14.heap.size w14 wr) (fun _ i _ => nN - (intOf i).toNat)
                                                  case atStart => exact ⟨0, Nat.zero_le _, rfl, rfl, Below.refl _ _⟩
                                                  case round =>
                                                    obtain ⟨t, ht, rfl, rfl, hbi⟩ := hrel
                                                    obtain ⟨ha0, ha1, ha2, ha3, ha4⟩ := HX14.out
                                                    have hx0 := cell_later hbi ha0
                                                    have hx1 := cell_later hbi ha1
                                                    have hx2 := cell_later hbi ha2
                                                    have hx3 := cell_later hbi ha3
                                                    have hx4 := cell_later hbi ha4
                                                    clear ha0 ha1 ha2 ha3 ha4
                                                    have hbU := hbT.trans (hbi.mono hbT.size)
                                                    by_cases htn : t < nN
                                                    · skip
                                                      as_aux_lemma =>
                                                        obtain ⟨bn, on, s, rfl, hs, hcn⟩ := HRN.out.get htn
                                                        have hs0 := range_below (B := 0) hcn hbU 0 (.string s) rfl
                                                        simp only [strE, Nat.mul_one, Nat.add_zero] at hs0
                                                        have HS : Hid ((((bestIds l l).take (t + 1)).any fun s => s.toList == x.fId.toList) = ((((bestIds l l).take t).any fun s => s.toList == x.fId.toList) || (s.toList == x.fId.toList))) := Lib.hid (by rw [take_of_get hs, List.any_append]; simp)
                                                        clear hcn hs
                                                        rcases hfv : ((bestIds l l).take t).any (fun s => s.toList == x.fId.toList) with _ | _
                                                        · rw [hfv, Bool.false_or] at HS
                                                          clear hfv
                                                          go_wp2_with fail
                                                          go_quiet (fail)
                                                          go_wp2
                                                          first | (refine ⟨⟨t + 1, by omega, by go_num, by rw [HS.out], below_drewN hbi _⟩, ?_⟩; (simp [intOf]; omega)) | (go_roundw; (case rel => first | exact ⟨t + 1, by omega, by go_num, by rw [HS.out], below_drewN hbi _⟩ | ((try refine ⟨trivial, ?_⟩); (repeat apply Exists.intro); exact ⟨⟨t + 1, by omega, by go_num, by rw [HS.out], below_drewN hbi _⟩, rfl⟩)); (case measure => (simp [intOf]; omega)))
                                                        · rw [hfv, Bool.true_or] at HS
                                                          clear hfv
                                                          go_wp2_with fail
                                                          go_quiet (fail)
                                                          go_wp2
                                                          first | (refine ⟨⟨t + 1, by omega, by go_num, by rw [HS.out], below_drewN hbi _⟩, ?_⟩; (simp [intOf]; omega)) | (go_roundw; (case rel => first | exact ⟨t + 1, by omega, by go_num, by rw [HS.out], below_drewN hbi _⟩ | ((try refine ⟨trivial, ?_⟩); (repeat apply Exists.intro); exact ⟨⟨t + 1, by omega, by go_num, by rw [HS.out], below_drewN hbi _⟩, rfl⟩)); (case measure => (simp [intOf]; omega)))
                                                    · skip
                                                      as_aux_lemma =>
                                                        obtain rfl : nN = t := by omega
                                                        have E : Hid ((((bestIds l l).take nN).any fun s => s.toList == x.fId.toList) = !bv) := Lib.hid (by rw [List.take_of_length_le (by rw [HLN.out]; exact Nat.le_refl _)]; exact HF.out)
                                                        rw [E.out]
                                                        have hbq : ((!bv) == bv) = false := by cases bv <;> rfl
                                                        clear E HF htn ht hbi HX14
                                                        obtain ⟨u, hu⟩ : ∃ u : Nat, (k + 1) % n = u := ⟨_, rfl⟩
                                                        have hun : u < n := by rw [← hu]; exact Nat.mod_lt _ (by omega)
                                                        have hn0 : ¬ (n : Int) = 0 := by omega
                                                        have hn0b : ((n : Int) == 0) = false := by rw [beq_eq_false_iff_ne]; omega
                                                        have hm1 : ((k : Int) + 1) % (n : Int) = (u : Int) := by rw [← hu]; push_cast; rfl
                                                        have hm2 : ((k : Int) + 1).tmod (n : Int) = (u : Int) := by rw [Int.tmod_eq_emod_of_nonneg (by omega)]; exact hm1
                                                        have hm3 : IntKind.i64.wrap ((u : Nat) : Int) = (u : Int) := wid (by omega)
                                                        obtain ⟨y, hy⟩ : ∃ y, l[u]? = some y := ⟨_, List.getElem?_eq_getElem (by have := HL.out; omega)⟩
                                                        have HMy := Lib.hid (mem_of_get hy)
                                                        have hcr := range_below (B := 0) (HCS.out u y hy) hbU
                                                        have hc0 := hcr 0 _ rfl
                                                        have hc1 := hcr 1 _ rfl
                                                        have hc2 := hcr 2 _ rfl
                                                        have hc3 := hcr 3 _ rfl
                                                        have hc4 := hcr 4 _ rfl
                                                        simp only [policyE, Nat.add_zero] at hc0 hc1 hc2 hc3 hc4
                                                        have HU := Lib.hid hu
                                                        clear hcr hy hu
                                                        have hs1 := HQL.out.small x HM.out
                                                        have hs2 := HQL.out.small y HMy.out
                                                        have hX := fun W => i_CrossAt x y W HOK.out (HO.out.ok y HMy.out) HSZ.out (HO.out.sz y HMy.out) hs1.1 hs1.2 hs2.1 hs2.2
                                                        clear hs1 hs2
                                                        have hcy := range_new wr #[.string y.fId, .int .i64 y.fPremium, .int .i64 y.fShare, .int .i64 y.fExcess, .int .i64 y.fMost] 35
                                                        have hba : Below wr.heap.size wr (wr.alloc (.cells #[.string y.fId, .int .i64 y.fPremium, .int .i64 y.fShare, .int .i64 y.fExcess, .int .i64 y.fMost] 35)) := (Below.refl _ _).alloc (Nat.le_refl _) _
                                                        obtain ⟨V0, hV0⟩ : ∃ V0, wr.alloc (.cells #[.string y.fId, .int .i64 y.fPremium, .int .i64 y.fShare, .int .i64 y.fExcess, .int .i64 y.fMost] 35) = V0 := ⟨_, rfl⟩
                                                        rw [hV0] at hcy hba
                                                        have hy0 := hcy 0 _ rfl
                                                        have hy1 := hcy 1 _ rfl
                                                        have hy2 := hcy 2 _ rfl
                                                        have hy3 := hcy 3 _ rfl
                                                        have hy4 := hcy 4 _ rfl
                                                        simp only [Nat.zero_add] at hy0 hy1 hy2 hy3 hy4
                                                        have hb0 := hbU.trans (hba.mono hbU.size)
                                                        replace hx0 := cell_later hba hx0
                                                        replace hx1 := cell_later hba hx1
                                                        replace hx2 := cell_later hba hx2
                                                        replace hx3 := cell_later hba hx3
                                                        replace hx4 := cell_later hba hx4
                                                        clear hcy hba hbU
                                                        go_wp2_with fail
                                                        try rw [hV0]
                                                        clear hV0 hc0 hc1 hc2 hc3 hc4
                                                        obtain ⟨by_, hby⟩ : ∃ b, wr.heap.size = b := ⟨_, rfl⟩
                                                        rw [hby] at hy0 hy1 hy2 hy3 hy4 ⊢
                                                        clear hby
                                                        refine (hX _).mono ?_
                                                        rintro e w15 hmr
                                                        obtain ⟨f, g, hCP, rfl, hb15⟩ := hmr.one
                                                        replace hx0 := cell_later hb15 hx0
                                                        replace hx1 := cell_later hb15 hx1
                                                        replace hx2 := cell_later hb15 hx2
                                                        replace hx3 := cell_later hb15 hx3
                                                        replace hx4 := cell_later hb15 hx4
                                                        replace hy0 := cell_later hb15 hy0
                                                        replace hy1 := cell_later hb15 hy1
                                                        replace hy2 := cell_later hb15 hy2
                                                        replace hy3 := cell_later hb15 hy3
                                                        replace hy4 := cell_later hb15 hy4
                                                        replace hb0 := hb0.trans (hb15.mono hb0.size)
                                                        have HCP := Lib.hid hCP
                                                        clear hmr hCP hX hb15 hm1 hm2 hm3 hn0 hn0b hun HU
                                                        as_aux_lemma =>
                                                          rcases HCP.out with ⟨d, rfl, rfl, hd, hcd, hpr⟩ | ⟨rfl, rfl, hpr⟩
                                                          · skip
                                                            as_aux_lemma =>
                                                              have J1 : Hid (∀ (W : World) (gg : Nat), W.cell? ⟨gg, 0, none⟩ = some (.int .i64 (d : Int)) → Calls Tryz.prog 18 #[.agg #[.string x.fId, .int .i64 x.fPremium, .int .i64 x.fShare, .int .i64 x.fExcess, .int .i64 x.fMost], .slice (some ⟨gg, 0, none⟩) 1 1] W fun e w' => e = .returned (.tuple #[.int .i64 (costP x [(d : Int)]), .int .i64 0]) ∧ Below W.heap.size W w') := Lib.hid fun W gg hg => s_YearCost x _ 1 1 [(d : Int)] W HOK.out HSZ.out (rd_one hg) (dams_one (by omega) (by omega))
                                                              have J2 : Hid (∀ (W : World) (gg : Nat), W.cell? ⟨gg, 0, none⟩ = some (.int .i64 (d : Int)) → Calls Tryz.prog 18 #[.agg #[.string y.fId, .int .i64 y.fPremium, .int .i64 y.fShare, .int .i64 y.fExcess, .int .i64 y.fMost], .slice (some ⟨gg, 0, none⟩) 1 1] W fun e w' => e = .returned (.tuple #[.int .i64 (costP y [(d : Int)]), .int .i64 0]) ∧ Below W.heap.size W w') := Lib.hid fun W gg hg => s_YearCost y _ 1 1 [(d : Int)] W (HO.out.ok y HMy.out) (HO.out.sz y HMy.out) (rd_one hg) (dams_one (by omega) (by omega))
                                                              obtain ⟨P, hPP⟩ : ∃ P, costP x [(d : Int)] = P := ⟨_, rfl⟩
                                                              obtain ⟨Q, hQQ⟩ : ∃ Q, costP y [(d : Int)] = Q := ⟨_, rfl⟩
                                                              rw [hPP] at J1 hcd
                                                              rw [hQQ] at J2 hcd
                                                              have t1 : ¬ Q ≤ P := by omega
                                                              clear hPP hQQ
                                                              have hba : Below w15.heap.size w15 (w15.alloc (.cells #[.int .i64 (d : Int)] 2)) := (Below.refl _ _).alloc (Nat.le_refl _) _
                                                              go_wp2_with fail
                                                              refine (J1.out _ _ (cell_alloc _ _ rfl)).mono ?_
                                                              rintro e w16 ⟨rfl, hb16⟩
                                                              replace hx0 := cell_later hba hx0
                                                              replace hx1 := cell_later hba hx1
                                                              replace hx2 := cell_later hba hx2
                                                              replace hx3 := cell_later hba hx3
                                                              replace hx4 := cell_later hba hx4
                                                              replace hy0 := cell_later hba hy0
                                                              replace hy1 := cell_later hba hy1
                                                              replace hy2 := cell_later hba hy2
                                                              replace hy3 := cell_later hba hy3
                                                              replace hy4 := cell_later hba hy4
                                                              replace hb0 := hb0.trans (hba.mono hb0.size)
                                                              clear hba
                                                              replace hx0 := cell_later hb16 hx0
                                                              replace hx1 := cell_later hb16 hx1
                                                              replace hx2 := cell_later hb16 hx2
                                                              replace hx3 := cell_later hb16 hx3
                                                              replace hx4 := cell_later hb16 hx4
                                                              replace hy0 := cell_later hb16 hy0
                                                              replace hy1 := cell_later hb16 hy1
                                                              replace hy2 := cell_later hb16 hy2
                                                              replace hy3 := cell_later hb16 hy3
                                                              replace hy4 := cell_later hb16 hy4
                                                              replace hb0 := hb0.trans (hb16.mono hb0.size)
                                                              clear hb16 J1
                                                              have hba : Below w16.heap.size w16 (w16.alloc (.cells #[.int .i64 (d : Int)] 2)) := (Below.refl _ _).alloc (Nat.le_refl _) _
                                                              go_wp2_with fail
                                                              refine (J2.out _ _ (cell_alloc _ _ rfl)).mono ?_
                                                              rintro e w17 ⟨rfl, hb17⟩
                                                              replace hx0 := cell_later hba hx0
                                                              replace hx1 := cell_later hba hx1
                                                              replace hx2 := cell_later hba hx2
                                                              replace hx3 := cell_later hba hx3
                                                              replace hx4 := cell_later hba hx4
                                                              replace hy0 := cell_later hba hy0
                                                              replace hy1 := cell_later hba hy1
                                                              replace hy2 := cell_later hba hy2
                                                              replace hy3 := cell_later hba hy3
                                                              replace hy4 := cell_later hba hy4
                                                              replace hb0 := hb0.trans (hba.mono hb0.size)
                                                              clear hba
                                                              replace hx0 := cell_later hb17 hx0
                                                              replace hx1 := cell_later hb17 hx1
                                                              replace hx2 := cell_later hb17 hx2
                                                              replace hx3 := cell_later hb17 hx3
                                                              replace hx4 := cell_later hb17 hx4
                                                              replace hy0 := cell_later hb17 hy0
                                                              replace hy1 := cell_later hb17 hy1
                                                              replace hy2 := cell_later hb17 hy2
                                                              replace hy3 := cell_later hb17 hy3
                                                              replace hy4 := cell_later hb17 hy4
                                                              replace hb0 := hb0.trans (hb17.mono hb0.size)
                                                              clear hb17 J2
                                                              by_cases hd0 : d = 0
                                                              · subst hd0
                                                                clear hpr
                                                                go_wp2
                                                                first | (refine ⟨⟨k + 1, by omega, by go_num, hb0⟩, ?_⟩; (simp [intOf]; omega)) | (go_roundw; (case rel => first | exact ⟨k + 1, by omega, by go_num, hb0⟩ | ((try refine ⟨trivial, ?_⟩); (repeat apply Exists.intro); exact ⟨⟨k + 1, by omega, by go_num, hb0⟩, rfl⟩)); (case measure => (simp [intOf]; omega)))
                                                              · have t2 : ¬ x.fPremium < y.fPremium := by have := hpr (by omega); omega
                                                                have t3 : (0 : Int) < (d : Int) := by omega
                                                                clear hpr
                                                                go_wp2
                                                                first | (refine ⟨⟨k + 1, by omega, by go_num, hb0⟩, ?_⟩; (simp [intOf]; omega)) | (go_roundw; (case rel => first | exact ⟨k + 1, by omega, by go_num, hb0⟩ | ((try refine ⟨trivial, ?_⟩); (repeat apply Exists.intro); exact ⟨⟨k + 1, by omega, by go_num, hb0⟩, rfl⟩)); (case measure => (simp [intOf]; omega)))
                                                          · skip
                                                            as_aux_lemma =>
                                                              have t2 : ¬ x.fPremium < y.fPremium := by omega
                                                              go_wp2
                                                              first | (refine ⟨⟨k + 1, by omega, by go_num, hb0⟩, ?_⟩; (simp [intOf]; omega)) | (go_roundw; (case rel => first | exact ⟨k + 1, by omega, by go_num, hb0⟩ | ((try refine ⟨trivial, ?_⟩); (repeat apply Exists.intro); exact ⟨⟨k + 1, by omega, by go_num, hb0⟩, rfl⟩)); (case measure => (simp [intOf]; omega)))
                  · skip
                    as_aux_lemma =>
                      obtain rfl : k = n := by omega
                      have hBz := HB.out.trans (hb.mono HB.out.size)
                      by_cases h0 : 0 < k
                      · have hqk : q < k := by have := HQ.out.lt; rw [HL.out] at this; exact this h0
                        have ha0 : a = 0 := by
                          have := HA.out
                          rw [← HB0.out, decide_eq_true (by omega)] at this
                          exact eq_of_beq this
                        subst ha0
                        clear HR hlt hk
                        go_wp2
                        go_ret
                        exact ⟨rfl, hBz⟩
                      · have ha0 : (a != 0) = true := by
                          have := HA.out
                          rw [← HB0.out, decide_eq_false (by omega)] at this
                          rw [bne, this]; rfl
                        clear HR hlt hk
                        go_wp2
                        go_ret
                        exact ⟨rfl, hBz⟩
end Go.Proofs.YtflhpjfnpioldaaGreatDoor
