/- The walk of the law on goods. Printed by a program of mine. -/
import Derived.Test.YtfogginmdglagaaGreatDoorRows
import Derived.Test.YtfogginmdglagaaGreatDoorGoodP
import Derived.Test.YtfogginmdglagaaGreatDoorTxGood
import Derived.Test.YtfogginmdglagaaGreatDoorLawB
import Derived.Deep.DeepCutAuto
namespace Go.Proofs.YtfogginmdglagaaGreatDoor
set_option linter.unusedVariables false
set_option linter.unusedSimpArgs false
set_option linter.unusedSectionVars false
open Go.RowKit

/-- a drawn good is a small one -/
structure SmallG (x : DGood) : Prop where
  c0 : 0 ≤ x.fCount
  c1 : x.fCount ≤ 39
  l0 : 0 ≤ x.fLeast
  l1 : x.fLeast ≤ 39
  p0 : 0 ≤ x.fPrice
  p1 : x.fPrice ≤ 2950
theorem GoodDrawn.small {id : ByteArray} {x : DGood} (h : GoodDrawn id x) : SmallG x := by
  have := h.bCount; have := h.bLeast; have := h.bPrice
  exact ⟨by omega, by omega, by omega, by omega, by omega, by omega⟩
theorem SmallG.cost {x : DGood} (h : SmallG x) : 0 ≤ costG x ∧ costG x ≤ 115050 := by
  have h1 : 0 ≤ missG x ∧ missG x ≤ 39 := by have := h.c0; have := h.l1; unfold missG; omega
  exact mul_rangeG h1.1 h1.2 h.p0 h.p1
theorem goodids_ok : ∀ s ∈ goodids, nameB s = true := by
  simp only [goodids, nameB, ByteArray.toList_eq]
  decide
theorem had_small {l : List DGood} {id : ByteArray} (h : ∀ x ∈ l, SmallG x) : 0 ≤ hadG l id ∧ hadG l id ≤ 39 := by
  unfold hadG
  split
  · rename_i y hy
    have := h y (List.mem_of_getElem? hy)
    split
    · exact ⟨this.c0, this.c1⟩
    · omega
  · omega
theorem ok_small {x : DGood} {c : Int} (h : SmallG x) (hn : nameB x.fId = true) (h0 : 0 ≤ c) (h1 : c ≤ 100000) : okGood ⟨x.fId, c, x.fLeast, x.fPrice⟩ = true := by
  have := h.l0; have := h.l1; have := h.p0; have := h.p1
  show (nameB x.fId && (inB c 0 100000 && (inB x.fLeast 0 100000 && inB x.fPrice 0 10000000))) = true
  rw [hn, inB_true h0 h1, inB_true (by omega) (by omega), inB_true (by omega) (by omega)]
  rfl
set_option maxRecDepth 100000 in
set_option maxHeartbeats 8000000 in
theorem w_Goods (A0 : Option Addr) (n0 c0 : Nat) (l0 : List UInt8) (A1 : Option Addr) (n1 c1 : Nat) (l1 : List UInt8) (w : World) (hr0 : Rd byteE w A0 n0 l0) (hn0 : n0 ≤ maxLen) (hg0 : ∀ x ∈ l0, (0 : Int) ≤ (x.toNat : Int)) (hr1 : Rd byteE w A1 n1 l1) (hn1 : n1 ≤ maxLen) (hg1 : ∀ x ∈ l1, (0 : Int) ≤ (x.toNat : Int)) (hL : LibW w) :
    Calls Tryz.prog 3 #[.slice A0 n0 c0, .slice A1 n1 c1] w (RetB true w) := by
  clear hg0 hg1
  go_enter Tryz.func3, Tryz.ntmps3
  go_wp2_with fail
  refine (l_r8Long A0 A1 n0 c0 n1 c1 _ hn0 hn1).mono ?_
  rintro e w' ⟨rfl, rfl⟩
  rcases hlong : (decide (1048576 < n0) || decide (1048576 < n1)) with _ | _
  rotate_left
  · clear hlong
    go_wp2
    go_ret
    exact ⟨rfl, Below.refl _ _⟩
  have hs0 : n0 ≤ 1048576 ∧ n1 ≤ 1048576 := by
    rw [Bool.or_eq_false_iff, decide_eq_false_iff_not, decide_eq_false_iff_not] at hlong
    omega
  clear hlong
  go_wp2_with fail
  refine (s_R8Goods A0 n0 c0 l0 w hr0 hs0.1).mono ?_
  rintro e w1 ⟨A, n, c, l, hql, hl, hn5, rfl, hgl, hB⟩
  have HS := Lib.hid (fun x hx => (hql.ok x hx).small)
  have HO := Lib.hid hql.okAll
  have HL := Lib.hid hl
  have HR := Lib.hid hgl.rd
  have HB := Lib.hid hB
  clear hql hl hgl hB
  as_aux_lemma =>
    go_wp2_with fail
    refine (s_R8Good A1 n1 c1 l1 w1 (hr1.below HB.out) hs0.2).mono ?_
    rintro e w2 ⟨z, hzi, hzd, rfl, hb2⟩
    have HZN := Lib.hid (goodids_ok _ hzi)
    have HZS := Lib.hid hzd.small
    have hcz := range_new w2 #[.string z.fId, .int .i64 z.fCount, .int .i64 z.fLeast, .int .i64 z.fPrice] 27
    have hbz : Below w1.heap.size w1 (w2.alloc (.cells #[.string z.fId, .int .i64 z.fCount, .int .i64 z.fLeast, .int .i64 z.fPrice] 27)) := hb2.alloc hb2.size _
    obtain ⟨W0, hW0⟩ : ∃ W0, w2.alloc (.cells #[.string z.fId, .int .i64 z.fCount, .int .i64 z.fLeast, .int .i64 z.fPrice] 27) = W0 := ⟨_, rfl⟩
    rw [hW0] at hcz hbz
    have hW := fun (W : World) (hb : Below w1.heap.size w1 W) => i_StockWorth A n c l W (HR.out.below hb) HO.out
    clear hzi hzd hb2
    go_wp2_with fail
    try rw [hW0]
    clear hW0
    obtain ⟨bz, hbz'⟩ : ∃ b, w2.heap.size = b := ⟨_, rfl⟩
    rw [hbz'] at hcz ⊢
    clear hbz'
    have hz0 := hcz 0 _ rfl
    have hz1 := hcz 1 _ rfl
    have hz2 := hcz 2 _ rfl
    have hz3 := hcz 3 _ rfl
    simp only [Nat.zero_add] at hz0 hz1 hz2 hz3
    have HZ := Lib.hid (show (W0.cell? ⟨bz, 0, none⟩ = some (.string z.fId) ∧ W0.cell? ⟨bz, 1, none⟩ = some (.int .i64 z.fCount) ∧ W0.cell? ⟨bz, 2, none⟩ = some (.int .i64 z.fLeast) ∧ W0.cell? ⟨bz, 3, none⟩ = some (.int .i64 z.fPrice)) from ⟨hz0, hz1, hz2, hz3⟩)
    have HR0 := Lib.hid (HR.out.below hbz)
    have HB0 := Lib.hid (HB.out.trans (hbz.mono HB.out.size))
    refine (hW _ hbz).mono ?_
    rintro e w3 ⟨rfl, hb⟩
    clear hW hcz hbz hz0 hz1 hz2 hz3 HR HB
    as_aux_lemma =>
      go_wp2_with fail
      refine (i_LowGoods A n c l w3 (HR0.out.below hb) HO.out).mono ?_
      rintro e w4 ⟨AN, nN, cN, hlN, hnN, hoN, rfl, hb4⟩
      have hrN : Rd strE w4 AN nN (lowIds l) := Rd.of_own hoN hlN
      have HLN := Lib.hid hlN
      replace hb := hb.trans (hb4.mono hb.size)
      clear hoN hlN hb4
      as_aux_lemma =>
        go_wp2_with fail
        refine (i_ReorderOf A n c l w4 (HR0.out.below hb) HO.out).mono ?_
        rintro e w5 ⟨AM, nM, cM, hlM, hoM, rfl, hb5⟩
        obtain rfl : n = nM := by rw [← hlM, List.length_map, HL.out]
        have hrM : Rd intE w5 AM n (l.map missG) := Rd.of_own hoM hlM
        replace hrN := hrN.below hb5
        replace hb := hb.trans (hb5.mono hb.size)
        clear hoM hlM hb5
        have hcs : 0 ≤ sumBy costG l ∧ sumBy costG l ≤ 115050 * l.length := sumBy_range fun y hy => (HS.out y hy).cost
        have hcs2 : sumBy costG l ≤ 575250 := by have := HL.out; omega
        have HBA := Lib.hid (buy_all (l := l) (m := sumBy costG l) HO.out.gb (Int.le_refl _))
        obtain ⟨CS, hCS⟩ : ∃ CS, sumBy costG l = CS := ⟨_, rfl⟩
        rw [hCS] at hcs hcs2 HBA ⊢
        have HCS := Lib.hid hCS
        clear hCS
        as_aux_lemma =>
          go_wp2_with fail
          refine (l_r8Wide A1 n1 c1 l1 40 700 w5 (hr1.below (HB0.out.trans (hb.mono HB0.out.size))) hn1 (by omega) (by omega) (by omega)).mono ?_
          rintro e w' ⟨r, hr7, rfl, rfl⟩
          obtain ⟨mo, hmo⟩ : ∃ mo : Int, 100 * (r : Int) = mo := ⟨_, rfl⟩
          have hmo2 : 0 ≤ mo ∧ mo ≤ 70000 := by omega
          as_aux_lemma =>
            go_wp2_with fail
            clear hmo hr7
            refine (i_WithinMoney A n c l mo w5 (HR0.out.below hb) HO.out hmo2.1 (by omega)).mono ?_
            rintro e w6 ⟨AB, nB, cB, hlB, hnB, hoB, rfl, hb6⟩
            obtain rfl : n = nB := by rw [← hlB, buyL_len, HL.out]
            have hrB : Rd intE w6 AB n (buyL mo l) := Rd.of_own hoB hlB
            replace hrN := hrN.below hb6
            replace hrM := hrM.below hb6
            replace hb := hb.trans (hb6.mono hb.size)
            clear hoB hlB hb6 hnB
            as_aux_lemma =>
              go_wp2_with fail
              refine (i_WithinMoney A n c l CS w6 (HR0.out.below hb) HO.out hcs.1 (by omega)).mono ?_
              rintro e w7 ⟨AE, nE, cE, hlE, hnE, hoE, rfl, hb7⟩
              obtain rfl : n = nE := by rw [← hlE, buyL_len, HL.out]
              have hrE : Rd intE w7 AE n (buyL CS l) := Rd.of_own hoE hlE
              rw [HBA.out] at hrE
              replace hrN := hrN.below hb7
              replace hrM := hrM.below hb7
              replace hrB := hrB.below hb7
              replace hb := hb.trans (hb7.mono hb.size)
              clear hoE hlE hb7 hnE hcs hcs2 HBA
              have hV := fun W hb => i_ValidGoods_yes A n c l W (HR0.out.below hb) HO.out
              as_aux_lemma =>
                go_wp2_with fail
                refine (l_r8Same_yes AE AM n cE cM _ w7 hrE hrM (by omega)).mono ?_
                rintro e w8 ⟨rfl, hb8⟩
                replace hrN := hrN.below hb8
                replace hrM := hrM.below hb8
                replace hrB := hrB.below hb8
                replace hb := hb.trans (hb8.mono hb.size)
                clear hb8 hrE
                as_aux_lemma =>
                  go_wp2_with fail
                  refine (hV _ hb).mono ?_
                  rintro e w9 ⟨rfl, hb9⟩
                  have HRN := Lib.hid (hrN.below hb9)
                  have HRM := Lib.hid (hrM.below hb9)
                  have HRB := Lib.hid (hrB.below hb9)
                  replace hb := hb.trans (hb9.mono hb.size)
                  have HR := Lib.hid (HR0.out.below hb)
                  have HB := Lib.hid (HB0.out.trans (hb.mono HB0.out.size))
                  obtain ⟨hq0, hq1, hq2, hq3⟩ := HZ.out
                  have HZ9 : Hid (w9.cell? ⟨bz, 0, none⟩ = some (.string z.fId) ∧ w9.cell? ⟨bz, 1, none⟩ = some (.int .i64 z.fCount) ∧ w9.cell? ⟨bz, 2, none⟩ = some (.int .i64 z.fLeast) ∧ w9.cell? ⟨bz, 3, none⟩ = some (.int .i64 z.fPrice)) := Lib.hid ⟨cell_later hb hq0, cell_later hb hq1, cell_later hb hq2, cell_later hb hq3⟩
                  clear hV hb9 hrN hrM hrB hb hq0 hq1 hq2 hq3 HZ HR0 HB0
                  as_aux_lemma =>
                    go_wp2_with fail
                    go_loopw [7, 19, 20, 21] (fun wo le su i wr => ∃ k : Nat, k ≤ n ∧ i = .int .i64 k ∧ wo = .int .i64 (sumBy worthG (l.drop k)) ∧ le = .int .i64 (leftL mo (l.take k)) ∧ su = .int .i64 (sumBy costG (l.take k)) ∧ Below w9.heap.size w9 wr) (fun _ _ _ i _ => n - (intOf i).toNat)
                    case atStart => exact ⟨0, Nat.zero_le _, rfl, rfl, rfl, rfl, Below.refl _ _⟩
                    case round =>
                      obtain ⟨k, hk, rfl, rfl, rfl, rfl, hb⟩ := hrel
                      by_cases hlt : k < n
                      · skip
                        as_aux_lemma =>
                          obtain ⟨b, off, rfl, hcs⟩ := HR.out.2 (by omega)
                          obtain ⟨x, hx⟩ : ∃ x, l[k]? = some x := ⟨_, List.getElem?_eq_getElem (by have := HL.out; omega)⟩
                          have hcr := range_below (B := 0) (hcs k x hx) hb
                          have hc0 := hcr 0 _ rfl
                          have hc1 := hcr 1 _ rfl
                          have hc2 := hcr 2 _ rfl
                          have hc3 := hcr 3 _ rfl
                          simp only [goodE, Nat.add_zero] at hc0 hc1 hc2 hc3
                          have HM := Lib.hid (mem_of_get hx)
                          have HOK := Lib.hid (HO.out.ok x HM.out)
                          have HSZ := Lib.hid (HO.out.sz x HM.out)
                          have HGB := Lib.hid (GB.of HOK.out)
                          have HX := Lib.hid hx
                          have K4 : Hid (∀ W, LibW W → Calls Tryz.prog 15 #[.agg #[.string x.fId, .int .i64 x.fCount, .int .i64 x.fLeast, .int .i64 x.fPrice]] W fun e w' => e = .returned (.string (txGood x)) ∧ Below W.heap.size W w') := Lib.hid fun W h => i_GoodText_yes x W HOK.out HSZ.out h
                          have K5 : Hid (∀ W, LibW W → Calls Tryz.prog 14 #[.string (txGood x)] W fun e w' => e = .returned (.tuple #[.agg #[.string x.fId, .int .i64 x.fCount, .int .i64 x.fLeast, .int .i64 x.fPrice], .bool true]) ∧ Below W.heap.size W w') := Lib.hid fun W h => (I_ReadGood (txGood x) W (by have := (read_txGood HOK.out).2.2; omega) h).mono (by
                            rintro e w' ⟨y, hy, rfl, hb⟩
                            obtain ⟨h1, h2, _⟩ := read_txGood HOK.out
                            have hyx : y = x := hy.out.trans h1
                            subst hyx
                            exact ⟨by rw [h2], hb⟩)
                          obtain ⟨TX, hTX⟩ : ∃ TX, txGood x = TX := ⟨_, rfl⟩
                          rw [hTX] at K4 K5
                          clear hTX hcr hx hcs
                          have hcx := range_new wr #[.string x.fId, .int .i64 x.fCount, .int .i64 x.fLeast, .int .i64 x.fPrice] 27
                          have hb0 : Below w9.heap.size w9 (wr.alloc (.cells #[.string x.fId, .int .i64 x.fCount, .int .i64 x.fLeast, .int .i64 x.fPrice] 27)) := hb.alloc hb.size _
                          obtain ⟨W0, hW0⟩ : ∃ W0, wr.alloc (.cells #[.string x.fId, .int .i64 x.fCount, .int .i64 x.fLeast, .int .i64 x.fPrice] 27) = W0 := ⟨_, rfl⟩
                          rw [hW0] at hb0 hcx
                          have hx0 := hcx 0 _ rfl
                          have hx1 := hcx 1 _ rfl
                          have hx2 := hcx 2 _ rfl
                          have hx3 := hcx 3 _ rfl
                          simp only [Nat.zero_add] at hx0 hx1 hx2 hx3
                          have HWD := Lib.hid (sumBy_drop (f := worthG) HX.out)
                          have HCD := Lib.hid (sumBy_take (f := costG) HX.out)
                          have HBT := Lib.hid (buyL_take HX.out mo).2
                          have HBG := Lib.hid (buyL_get HX.out mo)
                          have hlr := left_nonneg (l := l.take k) (m := mo) (fun y hy => HO.out.gb y (List.mem_of_mem_take hy)) hmo2.1
                          have HBU := Lib.hid (HGB.out.buys (money := leftL mo (l.take k)) hlr.1)
                          have hwr : 0 ≤ sumBy worthG (l.drop k) ∧ sumBy worthG (l.drop k) ≤ 1000000000000 * (l.drop k).length := sumBy_range (f := worthG) fun y hy => (HO.out.gb y (List.mem_of_mem_drop hy)).worth
                          have hwr2 : (l.drop k).length ≤ 16 := by have := HL.out; rw [List.length_drop]; omega
                          have hcr2 : 0 ≤ sumBy costG (l.take k) ∧ sumBy costG (l.take k) ≤ 1000000000000 * (l.take k).length := sumBy_range (f := costG) fun y hy => (HO.out.gb y (List.mem_of_mem_take hy)).cost
                          have hcr3 : (l.take k).length ≤ 16 := by have := HL.out; rw [List.length_take]; omega
                          obtain ⟨WO, hWO⟩ : ∃ WO, sumBy worthG (l.drop k) = WO := ⟨_, rfl⟩
                          obtain ⟨LE, hLE⟩ : ∃ LE, leftL mo (l.take k) = LE := ⟨_, rfl⟩
                          obtain ⟨SU, hSU⟩ : ∃ SU, sumBy costG (l.take k) = SU := ⟨_, rfl⟩
                          rw [hWO] at hwr HWD ⊢
                          rw [hLE] at hlr HBT HBG HBU ⊢
                          rw [hSU] at hcr2 HCD ⊢
                          have hWOr : 0 ≤ WO ∧ WO ≤ 16000000000000 := by omega
                          have hSUr : 0 ≤ SU ∧ SU ≤ 16000000000000 := by omega
                          clear hcx hWO hLE hSU hwr hwr2 hcr2 hcr3
                          as_aux_lemma =>
                            go_wp2_with fail
                            try rw [hW0]
                            clear hW0
                            obtain ⟨bx, hbx⟩ : ∃ bx, wr.heap.size = bx := ⟨_, rfl⟩
                            rw [hbx] at hx0 hx1 hx2 hx3 ⊢
                            clear hbx hb hc0 hc1 hc2 hc3
                            obtain ⟨wi, hwi⟩ : ∃ wi : World, wi = W0 := ⟨_, rfl⟩
                            subst hwi
                            have HXi : Hid (wi.cell? ⟨bx, 0, none⟩ = some (.string x.fId) ∧ wi.cell? ⟨bx, 1, none⟩ = some (.int .i64 x.fCount) ∧ wi.cell? ⟨bx, 2, none⟩ = some (.int .i64 x.fLeast) ∧ wi.cell? ⟨bx, 3, none⟩ = some (.int .i64 x.fPrice)) := Lib.hid ⟨hx0, hx1, hx2, hx3⟩
                            clear hx0 hx1 hx2 hx3
                            go_loopw [23, 24] (fun v i wr => ∃ t : Nat, t ≤ nN ∧ i = .int .i64 t ∧ v = .bool (((lowIds l).take t).any fun s => s.toList == x.fId.toList) ∧ Below wi.heap.size wi wr) (fun _ i _ => nN - (intOf i).toNat)
                            case atStart => exact ⟨0, Nat.zero_le _, rfl, rfl, Below.refl _ _⟩
                            case round =>
                              obtain ⟨t, ht, rfl, rfl, hbi⟩ := hrel
                              obtain ⟨ha0, ha1, ha2, ha3⟩ := HXi.out
                              have hx0 := cell_later hbi ha0
                              have hx1 := cell_later hbi ha1
                              have hx2 := cell_later hbi ha2
                              have hx3 := cell_later hbi ha3
                              clear ha0 ha1 ha2 ha3
                              have hbU := hb0.trans (hbi.mono hb0.size)
                              by_cases htn : t < nN
                              · skip
                                as_aux_lemma =>
                                  obtain ⟨bn, on, s, rfl, hs, hcn⟩ := HRN.out.get htn
                                  have hs0 := range_below (B := 0) hcn hbU 0 (.string s) rfl
                                  simp only [strE, Nat.mul_one, Nat.add_zero] at hs0
                                  have HS2 : Hid ((((lowIds l).take (t + 1)).any fun s => s.toList == x.fId.toList) = ((((lowIds l).take t).any fun s => s.toList == x.fId.toList) || (s.toList == x.fId.toList))) := Lib.hid (by rw [take_of_get hs, List.any_append]; simp)
                                  clear hcn hs
                                  rcases hfv : ((lowIds l).take t).any (fun s => s.toList == x.fId.toList) with _ | _
                                  · rw [hfv, Bool.false_or] at HS2
                                    clear hfv
                                    go_wp2_with fail
                                    go_quiet (fail)
                                    go_wp2
                                    first | (refine ⟨⟨t + 1, by omega, by go_num, by rw [HS2.out], below_drewN hbi _⟩, ?_⟩; (simp [intOf]; omega)) | (go_roundw; (case rel => first | exact ⟨t + 1, by omega, by go_num, by rw [HS2.out], below_drewN hbi _⟩ | ((try refine ⟨trivial, ?_⟩); (repeat apply Exists.intro); exact ⟨⟨t + 1, by omega, by go_num, by rw [HS2.out], below_drewN hbi _⟩, rfl⟩)); (case measure => (simp [intOf]; omega)))
                                  · rw [hfv, Bool.true_or] at HS2
                                    clear hfv
                                    go_wp2_with fail
                                    go_quiet (fail)
                                    go_wp2
                                    first | (refine ⟨⟨t + 1, by omega, by go_num, by rw [HS2.out], below_drewN hbi _⟩, ?_⟩; (simp [intOf]; omega)) | (go_roundw; (case rel => first | exact ⟨t + 1, by omega, by go_num, by rw [HS2.out], below_drewN hbi _⟩ | ((try refine ⟨trivial, ?_⟩); (repeat apply Exists.intro); exact ⟨⟨t + 1, by omega, by go_num, by rw [HS2.out], below_drewN hbi _⟩, rfl⟩)); (case measure => (simp [intOf]; omega)))
                              · skip
                                as_aux_lemma =>
                                  obtain rfl : nN = t := by omega
                                  have E : Hid ((((lowIds l).take nN).any fun s => s.toList == x.fId.toList) = decide (x.fCount < x.fLeast)) := Lib.hid (by rw [List.take_of_length_le (by rw [HLN.out]; exact Nat.le_refl _)]; exact low_found HO.out HM.out)
                                  rw [E.out]
                                  obtain ⟨wj, hwj⟩ : ∃ wj : World, wj = wr := ⟨_, rfl⟩
                                  subst hwj
                                  have hb0 := hbU
                                  clear E ht htn hbi HXi hbU
                                  go_wp2_with fail
                                  refine (K4.out _ (hL.below (HB.out.trans (hb0.mono HB.out.size)))).mono ?_
                                  rintro e w10 ⟨rfl, hb10⟩
                                  replace hx0 := cell_later hb10 hx0
                                  replace hx1 := cell_later hb10 hx1
                                  replace hx2 := cell_later hb10 hx2
                                  replace hx3 := cell_later hb10 hx3
                                  replace hb0 := hb0.trans (hb10.mono hb0.size)
                                  clear hb10 K4
                                  as_aux_lemma =>
                                    go_wp2_with fail
                                    refine (K5.out _ (hL.below (HB.out.trans (hb0.mono HB.out.size)))).mono ?_
                                    rintro e w11 ⟨rfl, hb11⟩
                                    replace hx0 := cell_later hb11 hx0
                                    replace hx1 := cell_later hb11 hx1
                                    replace hx2 := cell_later hb11 hx2
                                    replace hx3 := cell_later hb11 hx3
                                    replace hb0 := hb0.trans (hb11.mono hb0.size)
                                    clear hb11 K5
                                    as_aux_lemma =>
                                      have hne := fun W => run_neq_Good x x W
                                      have hxx : x.eqv x = true := (DGood.eqv_iff x x).2 rfl
                                      rw [hxx] at hne
                                      have hcy := range_new w11 #[.string x.fId, .int .i64 x.fCount, .int .i64 x.fLeast, .int .i64 x.fPrice] 27
                                      have hby : Below w11.heap.size w11 (w11.alloc (.cells #[.string x.fId, .int .i64 x.fCount, .int .i64 x.fLeast, .int .i64 x.fPrice] 27)) := (Below.refl _ _).alloc (Nat.le_refl _) _
                                      go_upto_region 25 with fail
                                      obtain ⟨W11, hW11⟩ : ∃ W11, w11.alloc (.cells #[.string x.fId, .int .i64 x.fCount, .int .i64 x.fLeast, .int .i64 x.fPrice] 27) = W11 := ⟨_, rfl⟩
                                      rw [hW11] at hcy hby
                                      rw [hW11]
                                      clear hW11
                                      replace hx0 := cell_later hby hx0
                                      replace hx1 := cell_later hby hx1
                                      replace hx2 := cell_later hby hx2
                                      replace hx3 := cell_later hby hx3
                                      replace hb0 := hb0.trans (hby.mono hb0.size)
                                      have hy0 := hcy 0 _ rfl
                                      have hy1 := hcy 1 _ rfl
                                      have hy2 := hcy 2 _ rfl
                                      have hy3 := hcy 3 _ rfl
                                      simp only [Nat.zero_add] at hy0 hy1 hy2 hy3
                                      clear hcy hby
                                      obtain ⟨bM, oM, vM, rfl, hvM, hcM⟩ := HRM.out.get hlt
                                      obtain ⟨bB, oB, vB, rfl, hvB, hcB⟩ := HRB.out.get hlt
                                      have hM0 := range_below (B := 0) hcM hb0 0 (.int .i64 vM) rfl
                                      have hB0 := range_below (B := 0) hcB hb0 0 (.int .i64 vB) rfl
                                      simp only [intE, Nat.mul_one, Nat.add_zero] at hM0 hB0
                                      have hvM2 : vM = max 0 (x.fLeast - x.fCount) := by
                                        rw [List.getElem?_map, HX.out] at hvM
                                        exact (Option.some.inj hvM).symm
                                      have hvB2 : vB = buy1 LE x := by
                                        rw [HBG.out] at hvB
                                        exact (Option.some.inj hvB).symm
                                      have hBU := HBU.out
                                      have hc0 := HGB.out.c0; have hc1 := HGB.out.c1; have hl0 := HGB.out.l0; have hl1 := HGB.out.l1; have hp0 := HGB.out.p0; have hp1 := HGB.out.p1
                                      have hco := HGB.out.cost
                                      have hwo := HGB.out.worth
                                      have hmx : max 0 (x.fLeast - x.fCount) = vM := hvM2.symm
                                      have hM1 : missG x = vM := hvM2.symm
                                      rw [hM1] at hco
                                      have b0 := hBU.n0; have b1 := hBU.n1; have b2 := hBU.c0; have b3 := hBU.c1; have b4 := hBU.full
                                      rw [← hvB2] at b0 b1 b2 b3 b4
                                      rw [hM1] at b1 b4
                                      have HWD2 : Hid (WO - x.fCount * x.fPrice = sumBy worthG (l.drop (k + 1))) := Lib.hid (by have := HWD.out; unfold worthG at this ⊢; omega)
                                      have HCD2 : Hid (sumBy costG (l.take (k + 1)) = SU + vM * x.fPrice) := Lib.hid (by rw [HCD.out]; unfold costG; rw [hM1])
                                      have HLD2 : Hid (leftL mo (l.take (k + 1)) = LE - vB * x.fPrice) := Lib.hid (by rw [HBT.out, hvB2])
                                      clear hvM hvB hcM hcB hvM2 hvB2 hM1 hBU HBU HBG HBT HCD HWD
                                      as_aux_lemma =>
                                        have q1 : IntKind.i64.wrap (x.fLeast - x.fCount) = x.fLeast - x.fCount := wid (by omega)
                                        have q2 : ¬ vB < 0 := by omega
                                        have q3 : ¬ vM < vB := by omega
                                        have q2' := decide_eq_false q2
                                        have q3' := decide_eq_false q3
                                        have q4 : IntKind.i64.wrap (vB * x.fPrice) = vB * x.fPrice := wid (by omega)
                                        have q5 : IntKind.i64.wrap (LE - vB * x.fPrice) = LE - vB * x.fPrice := wid (by omega)
                                        have q6 : IntKind.i64.wrap (vM * x.fPrice) = vM * x.fPrice := wid (by omega)
                                        have q7 : IntKind.i64.wrap (SU + vM * x.fPrice) = SU + vM * x.fPrice := wid (by omega)
                                        have q8 : IntKind.i64.wrap (x.fCount * x.fPrice) = x.fCount * x.fPrice := wid (by omega)
                                        have q9 : IntKind.i64.wrap (WO - x.fCount * x.fPrice) = WO - x.fCount * x.fPrice := wid (by omega)
                                        have q10 : ¬ LE - vB * x.fPrice < 0 := by omega
                                        have q10' := decide_eq_false q10
                                        have q11 : vB < vM → ¬ x.fPrice ≤ LE - vB * x.fPrice := fun h => by have := b4 h; omega
                                        clear b0 b1 b2 b3 b4 hco hwo hlr hWOr hSUr hc0 hc1 hl0 hl1 hp0 hp1
                                        go_quiet (fail)
                                        as_aux_lemma =>
                                          clear hne hxx hy0 hy1 hy2 hy3 q1 q2 q3 q2' q3' hmx
                                          go_wp2_with fail
                                          go_quiet (fail)
                                          as_aux_lemma =>
                                            go_wp2_with fail
                                            go_quiet (fail)
                                            as_aux_lemma =>
                                              go_wp2_with fail
                                              by_cases hvv : vB < vM
                                              · have r1 : ¬ x.fPrice ≤ LE - vB * x.fPrice := by have := q11 hvv; omega
                                                have r2 := decide_eq_true hvv
                                                have r3 := decide_eq_false r1
                                                clear q11
                                                go_quiet (fail)
                                                go_wp2
                                                first | (refine ⟨⟨k + 1, by omega, by go_num, by rw [HWD2.out], by rw [HLD2.out], by rw [HCD2.out], below_drewN hb0 _⟩, ?_⟩; (simp [intOf]; omega)) | (go_roundw; (case rel => first | exact ⟨k + 1, by omega, by go_num, by rw [HWD2.out], by rw [HLD2.out], by rw [HCD2.out], below_drewN hb0 _⟩ | ((try refine ⟨trivial, ?_⟩); (repeat apply Exists.intro); exact ⟨⟨k + 1, by omega, by go_num, by rw [HWD2.out], by rw [HLD2.out], by rw [HCD2.out], below_drewN hb0 _⟩, rfl⟩)); (case measure => (simp [intOf]; omega)))
                                              · have r2 := decide_eq_false hvv
                                                clear q11
                                                go_quiet (fail)
                                                go_wp2
                                                first | (refine ⟨⟨k + 1, by omega, by go_num, by rw [HWD2.out], by rw [HLD2.out], by rw [HCD2.out], below_drewN hb0 _⟩, ?_⟩; (simp [intOf]; omega)) | (go_roundw; (case rel => first | exact ⟨k + 1, by omega, by go_num, by rw [HWD2.out], by rw [HLD2.out], by rw [HCD2.out], below_drewN hb0 _⟩ | ((try refine ⟨trivial, ?_⟩); (repeat apply Exists.intro); exact ⟨⟨k + 1, by omega, by go_num, by rw [HWD2.out], by rw [HLD2.out], by rw [HCD2.out], below_drewN hb0 _⟩, rfl⟩)); (case measure => (simp [intOf]; omega)))
                      · skip
                        as_aux_lemma =>
                          obtain rfl : n = k := by omega
                          have e1 : sumBy worthG (l.drop n) = 0 := by rw [List.drop_of_length_le (by rw [HL.out]; exact Nat.le_refl _)]; rfl
                          have e2 : sumBy costG (l.take n) = CS := by rw [List.take_of_length_le (by rw [HL.out]; exact Nat.le_refl _)]; exact HCS.out
                          rw [e1, e2]
                          clear e1 e2 HCS hlt hk
                          obtain ⟨le, hle⟩ : ∃ le, leftL mo (l.take n) = le := ⟨_, rfl⟩
                          rw [hle]
                          clear hle
                          have hbb : (CS != CS) = false := by simp
                          obtain ⟨wA, hwA⟩ : ∃ wA : World, wA = wr := ⟨_, rfl⟩
                          subst hwA
                          obtain ⟨hq0, hq1, hq2, hq3⟩ := HZ9.out
                          have hz0 := cell_later hb hq0
                          have hz1 := cell_later hb hq1
                          have hz2 := cell_later hb hq2
                          have hz3 := cell_later hb hq3
                          clear hq0 hq1 hq2 hq3
                          have hhd := had_small (l := l) (id := z.fId) HS.out
                          have hzc0 := HZS.out.c0
                          have hzc1 := HZS.out.c1
                          have HOZ : Hid (okGood z = true) := Lib.hid (ok_small HZS.out HZN.out (by omega) (by omega))
                          have hzz : z.fId.size ≤ maxLen := by have := good_name10 HZN.out; unfold maxLen; omega
                          have HP : Hid (OkGoods (putG l z)) := Lib.hid (put_ok HO.out (ok_small HZS.out HZN.out (by omega) (by omega)) hzz (by have := HL.out; omega))
                          go_wp2_with fail
                          clear hbb
                          refine (i_PutGood A n c l z wA (HR.out.below hb) HO.out HOZ.out hzz HP.out).mono ?_
                          rintro e w10 ⟨AP, nP, cP, hlP, hnP, hoP, rfl, hb10⟩
                          have hrP : Rd goodE w10 AP nP (putG l z) := Rd.of_own hoP hlP
                          replace hz0 := cell_later hb10 hz0
                          replace hz1 := cell_later hb10 hz1
                          replace hz2 := cell_later hb10 hz2
                          replace hz3 := cell_later hb10 hz3
                          replace hb := hb.trans (hb10.mono hb.size)
                          have HLP := Lib.hid hlP
                          clear hoP hlP hb10
                          as_aux_lemma =>
                            go_wp2_with fail
                            refine (s_ValidGoods AP nP cP _ w10 hrP HP.out).mono ?_
                            rintro e w11 ⟨rfl, hb11⟩
                            have HRP := Lib.hid (hrP.below hb11)
                            replace hz0 := cell_later hb11 hz0
                            replace hz1 := cell_later hb11 hz1
                            replace hz2 := cell_later hb11 hz2
                            replace hz3 := cell_later hb11 hz3
                            replace hb := hb.trans (hb11.mono hb.size)
                            have HZ11 : Hid (w11.cell? ⟨bz, 0, none⟩ = some (.string z.fId) ∧ w11.cell? ⟨bz, 1, none⟩ = some (.int .i64 z.fCount) ∧ w11.cell? ⟨bz, 2, none⟩ = some (.int .i64 z.fLeast) ∧ w11.cell? ⟨bz, 3, none⟩ = some (.int .i64 z.fPrice)) := Lib.hid ⟨hz0, hz1, hz2, hz3⟩
                            have HB11 := Lib.hid (HB.out.trans (hb.mono HB.out.size))
                            have HR11 := Lib.hid (HR.out.below hb)
                            clear hrP hb11 hz0 hz1 hz2 hz3 hb HR HB HZ9 HRN HRM HRB
                            as_aux_lemma =>
                              go_wp2_with fail
                              go_loopw [29, 30] (fun h i wr => ∃ k : Nat, k ≤ n ∧ i = .int .i64 k ∧ h = .int .i64 (hadF z.fId (l.take k)) ∧ Below w11.heap.size w11 wr) (fun _ i _ => n - (intOf i).toNat)
                              case atStart => exact ⟨0, Nat.zero_le _, rfl, rfl, Below.refl _ _⟩
                              case round =>
                                obtain ⟨k, hk, rfl, rfl, hb⟩ := hrel
                                obtain ⟨hq0, hq1, hq2, hq3⟩ := HZ11.out
                                have hz0 := cell_later hb hq0
                                have hz1 := cell_later hb hq1
                                have hz2 := cell_later hb hq2
                                have hz3 := cell_later hb hq3
                                clear hq0 hq1 hq2 hq3
                                by_cases hlt : k < n
                                · skip
                                  as_aux_lemma =>
                                    obtain ⟨b, off, rfl, hcs⟩ := HR11.out.2 (by omega)
                                    obtain ⟨y, hy⟩ : ∃ y, l[k]? = some y := ⟨_, List.getElem?_eq_getElem (by have := HL.out; omega)⟩
                                    have hcr := range_below (B := 0) (hcs k y hy) hb
                                    have hc0 := hcr 0 _ rfl
                                    have hc1 := hcr 1 _ rfl
                                    have hc2 := hcr 2 _ rfl
                                    have hc3 := hcr 3 _ rfl
                                    simp only [goodE, Nat.add_zero] at hc0 hc1 hc2 hc3
                                    have HH := Lib.hid (hadF_take z.fId hy)
                                    clear hcs hcr hy
                                    rcases he : y.fId.toList == z.fId.toList with _ | _
                                    · have HN : Hid (hadF z.fId (l.take (k + 1)) = hadF z.fId (l.take k)) := Lib.hid (by rw [HH.out, show eqG y z.fId = false from he, if_neg (by simp)])
                                      go_wp2_with fail
                                      go_quiet (fail)
                                      clear he HH
                                      go_wp2
                                      first | (refine ⟨⟨k + 1, by omega, by go_num, by rw [HN.out], below_drewN hb _⟩, ?_⟩; (simp [intOf]; omega)) | (go_roundw; (case rel => first | exact ⟨k + 1, by omega, by go_num, by rw [HN.out], below_drewN hb _⟩ | ((try refine ⟨trivial, ?_⟩); (repeat apply Exists.intro); exact ⟨⟨k + 1, by omega, by go_num, by rw [HN.out], below_drewN hb _⟩, rfl⟩)); (case measure => (simp [intOf]; omega)))
                                    · have HN : Hid (hadF z.fId (l.take (k + 1)) = y.fCount) := Lib.hid (by rw [HH.out, show eqG y z.fId = true from he, if_pos rfl])
                                      go_wp2_with fail
                                      go_quiet (fail)
                                      clear he HH
                                      go_wp2
                                      first | (refine ⟨⟨k + 1, by omega, by go_num, by rw [HN.out], below_drewN hb _⟩, ?_⟩; (simp [intOf]; omega)) | (go_roundw; (case rel => first | exact ⟨k + 1, by omega, by go_num, by rw [HN.out], below_drewN hb _⟩ | ((try refine ⟨trivial, ?_⟩); (repeat apply Exists.intro); exact ⟨⟨k + 1, by omega, by go_num, by rw [HN.out], below_drewN hb _⟩, rfl⟩)); (case measure => (simp [intOf]; omega)))
                                · skip
                                  as_aux_lemma =>
                                    obtain rfl : n = k := by omega
                                    have e1 : hadF z.fId (l.take n) = hadG l z.fId := by rw [List.take_of_length_le (by rw [HL.out]; exact Nat.le_refl _)]; exact hadF_eq HO.out z.fId
                                    rw [e1]
                                    clear e1 hlt hk
                                    obtain ⟨wA, hwA⟩ : ∃ wA : World, wA = wr := ⟨_, rfl⟩
                                    subst hwA
                                    have hpa := put_at HO.out z
                                    have hpf := HP.out.is_found hpa
                                    have hpf1 : posG (putG l z) z.fId = posG l z.fId := hpf.1
                                    have hpf2 : foundG (putG l z) z.fId = true := hpf.2
                                    rw [← hpf1] at hpa
                                    have hT1 := i_TakePieces_yes AP nP cP (putG l z) z.fId z.fCount (newG l z) wA (HRP.out.below hb) HP.out hpf2 hpa hzc0 (by omega) (by show z.fCount ≤ z.fCount + hadG l z.fId; omega)
                                    have hT2 := fun W (hb : Below w11.heap.size w11 W) => i_TakePieces_no AP nP cP (putG l z) z.fId (hadG l z.fId + z.fCount + 1) (newG l z) W (HRP.out.below hb) HP.out hpf2 hpa (by omega) (by omega) (by show z.fCount + hadG l z.fId < hadG l z.fId + z.fCount + 1; omega)
                                    rw [hpf1] at hT1
                                    have HTA := Lib.hid (took_all HO.out HP.out)
                                    obtain ⟨H, hH⟩ : ∃ H, hadG l z.fId = H := ⟨_, rfl⟩
                                    have HHH := Lib.hid hH
                                    rw [hH] at hT2 hhd ⊢
                                    obtain ⟨TL, hTL⟩ : ∃ TL, (putG l z).set (posG l z.fId) (lessG (newG l z) z.fCount) = TL := ⟨_, rfl⟩
                                    rw [hTL] at hT1 HTA
                                    have HTL : Hid (TL.length = nP) := Lib.hid (by rw [← hTL, List.length_set]; exact HLP.out)
                                    clear hpa hpf hpf1 hpf2 hH hTL
                                    as_aux_lemma =>
                                      go_wp2_with fail
                                      refine hT1.mono ?_
                                      rintro e w12 ⟨AT, nT, cT, hlT, hnT, hoT, rfl, hb12⟩
                                      obtain rfl : nP = nT := by rw [← hlT, HTL.out]
                                      have hrT : Rd goodE w12 AT nP TL := Rd.of_own hoT hlT
                                      replace hz0 := cell_later hb12 hz0
                                      replace hz1 := cell_later hb12 hz1
                                      replace hz2 := cell_later hb12 hz2
                                      replace hz3 := cell_later hb12 hz3
                                      replace hb := hb.trans (hb12.mono hb.size)
                                      clear hoT hlT hb12 hT1
                                      as_aux_lemma =>
                                        go_wp2_with fail
                                        refine (hT2 _ hb).mono ?_
                                        rintro e w13 ⟨rfl, hb13⟩
                                        have HRT := Lib.hid (hrT.below hb13)
                                        replace hz0 := cell_later hb13 hz0
                                        replace hz1 := cell_later hb13 hz1
                                        replace hz2 := cell_later hb13 hz2
                                        replace hz3 := cell_later hb13 hz3
                                        replace hb := hb.trans (hb13.mono hb.size)
                                        have HZ13 : Hid (w13.cell? ⟨bz, 0, none⟩ = some (.string z.fId) ∧ w13.cell? ⟨bz, 1, none⟩ = some (.int .i64 z.fCount) ∧ w13.cell? ⟨bz, 2, none⟩ = some (.int .i64 z.fLeast) ∧ w13.cell? ⟨bz, 3, none⟩ = some (.int .i64 z.fPrice)) := Lib.hid ⟨hz0, hz1, hz2, hz3⟩
                                        have HB13 := Lib.hid (HB11.out.trans (hb.mono HB11.out.size))
                                        have HR13 := Lib.hid (HR11.out.below hb)
                                        clear hb13 hT2 hrT hz0 hz1 hz2 hz3 hb HR11 HZ11 HB11 HRP
                                        as_aux_lemma =>
                                          go_wp2_with fail
                                          go_loopw [35] (fun i wr => ∃ k : Nat, k ≤ nP ∧ i = .int .i64 k ∧ Below w13.heap.size w13 wr) (fun i _ => nP - (intOf i).toNat)
                                          case atStart => exact ⟨0, Nat.zero_le _, rfl, Below.refl _ _⟩
                                          case round =>
                                            obtain ⟨k, hk, rfl, hb⟩ := hrel
                                            by_cases hlt : k < nP
                                            · skip
                                              as_aux_lemma =>
                                                obtain ⟨b', off', rfl, hcs⟩ := HRT.out.2 (by omega)
                                                obtain ⟨y, hy⟩ : ∃ y, TL[k]? = some y := ⟨_, List.getElem?_eq_getElem (by have := HTL.out; omega)⟩
                                                have hcr := range_below (B := 0) (hcs k y hy) hb
                                                have hc0 := hcr 0 _ rfl
                                                have hc1 := hcr 1 _ rfl
                                                have hc2 := hcr 2 _ rfl
                                                have hc3 := hcr 3 _ rfl
                                                simp only [goodE, Nat.add_zero] at hc0 hc1 hc2 hc3
                                                have HMy := Lib.hid (mem_of_get hy)
                                                clear hcs hcr hy
                                                have hcy := range_new wr #[.string y.fId, .int .i64 y.fCount, .int .i64 y.fLeast, .int .i64 y.fPrice] 27
                                                have hba : Below wr.heap.size wr (wr.alloc (.cells #[.string y.fId, .int .i64 y.fCount, .int .i64 y.fLeast, .int .i64 y.fPrice] 27)) := (Below.refl _ _).alloc (Nat.le_refl _) _
                                                obtain ⟨W0, hW0⟩ : ∃ W0, wr.alloc (.cells #[.string y.fId, .int .i64 y.fCount, .int .i64 y.fLeast, .int .i64 y.fPrice] 27) = W0 := ⟨_, rfl⟩
                                                rw [hW0] at hcy hba
                                                have hy0 := hcy 0 _ rfl
                                                have hy1 := hcy 1 _ rfl
                                                have hy2 := hcy 2 _ rfl
                                                have hy3 := hcy 3 _ rfl
                                                simp only [Nat.zero_add] at hy0 hy1 hy2 hy3
                                                have hb0 := hb.trans (hba.mono hb.size)
                                                obtain ⟨ha0, ha1, ha2, ha3⟩ := HZ13.out
                                                have hz0 := cell_later hb0 ha0
                                                have hz1 := cell_later hb0 ha1
                                                have hz2 := cell_later hb0 ha2
                                                have hz3 := cell_later hb0 ha3
                                                clear ha0 ha1 ha2 ha3 hcy hba hb
                                                rcases he : y.fId.toList == z.fId.toList with _ | _
                                                · skip
                                                  as_aux_lemma =>
                                                    go_wp2_with fail
                                                    try rw [hW0]
                                                    clear hW0 hc0 hc1 hc2 hc3
                                                    obtain ⟨by_, hby⟩ : ∃ b, wr.heap.size = b := ⟨_, rfl⟩
                                                    rw [hby] at hy0 hy1 hy2 hy3 ⊢
                                                    clear hby
                                                    obtain ⟨wi, hwi⟩ : ∃ wi : World, wi = W0 := ⟨_, rfl⟩
                                                    subst hwi
                                                    have HYi : Hid ((wi.cell? ⟨by_, 0, none⟩ = some (.string y.fId) ∧ wi.cell? ⟨by_, 1, none⟩ = some (.int .i64 y.fCount) ∧ wi.cell? ⟨by_, 2, none⟩ = some (.int .i64 y.fLeast) ∧ wi.cell? ⟨by_, 3, none⟩ = some (.int .i64 y.fPrice)) ∧ (wi.cell? ⟨bz, 0, none⟩ = some (.string z.fId) ∧ wi.cell? ⟨bz, 1, none⟩ = some (.int .i64 z.fCount) ∧ wi.cell? ⟨bz, 2, none⟩ = some (.int .i64 z.fLeast) ∧ wi.cell? ⟨bz, 3, none⟩ = some (.int .i64 z.fPrice))) := Lib.hid ⟨⟨hy0, hy1, hy2, hy3⟩, ⟨hz0, hz1, hz2, hz3⟩⟩
                                                    clear hy0 hy1 hy2 hy3 hz0 hz1 hz2 hz3
                                                    go_loopw [37] (fun i wr => ∃ t : Nat, t ≤ n ∧ i = .int .i64 t ∧ Below wi.heap.size wi wr) (fun i _ => n - (intOf i).toNat)
                                                    case atStart => exact ⟨0, Nat.zero_le _, rfl, Below.refl _ _⟩
                                                    case round =>
                                                      obtain ⟨t, ht, rfl, hbi⟩ := hrel
                                                      obtain ⟨⟨ha0, ha1, ha2, ha3⟩, ⟨hd0, hd1, hd2, hd3⟩⟩ := HYi.out
                                                      have hy0 := cell_later hbi ha0
                                                      have hz0 := cell_later hbi hd0
                                                      have hy1 := cell_later hbi ha1
                                                      have hz1 := cell_later hbi hd1
                                                      have hy2 := cell_later hbi ha2
                                                      have hz2 := cell_later hbi hd2
                                                      have hy3 := cell_later hbi ha3
                                                      have hz3 := cell_later hbi hd3
                                                      clear ha0 ha1 ha2 ha3 hd0 hd1 hd2 hd3
                                                      have hbU := hb0.trans (hbi.mono hb0.size)
                                                      by_cases htn : t < n
                                                      · skip
                                                        as_aux_lemma =>
                                                          obtain ⟨b, off, rfl, hcs⟩ := HR13.out.2 (by omega)
                                                          obtain ⟨x, hx⟩ : ∃ x, l[t]? = some x := ⟨_, List.getElem?_eq_getElem (by have := HL.out; omega)⟩
                                                          have hcr := range_below (B := 0) (hcs t x hx) hbU
                                                          have hc0 := hcr 0 _ rfl
                                                          have hc1 := hcr 1 _ rfl
                                                          have hc2 := hcr 2 _ rfl
                                                          have hc3 := hcr 3 _ rfl
                                                          simp only [goodE, Nat.add_zero] at hc0 hc1 hc2 hc3
                                                          have HMx := Lib.hid (mem_of_get hx)
                                                          clear hcs hcr hx
                                                          rcases hxy : x.fId.toList == y.fId.toList with _ | _
                                                          · go_wp2_with fail
                                                            go_quiet (fail)
                                                            go_wp2
                                                            first | (refine ⟨⟨t + 1, by omega, by go_num, below_drewN hbi _⟩, ?_⟩; (simp [intOf]; omega)) | (go_roundw; (case rel => first | exact ⟨t + 1, by omega, by go_num, below_drewN hbi _⟩ | ((try refine ⟨trivial, ?_⟩); (repeat apply Exists.intro); exact ⟨⟨t + 1, by omega, by go_num, below_drewN hbi _⟩, rfl⟩)); (case measure => (simp [intOf]; omega)))
                                                          · have hen : (y.fId.toList != z.fId.toList) = true := by unfold bne; rw [he]; rfl
                                                            have hxe : x = y := HTA.out.other y HMy.out x HMx.out hxy he
                                                            subst hxe
                                                            have hne := fun W => run_neq_Good x x W
                                                            have hxx : x.eqv x = true := (DGood.eqv_iff x x).2 rfl
                                                            rw [hxx] at hne
                                                            go_wp2_with fail
                                                            go_quiet (fail)
                                                            go_wp2
                                                            first | (refine ⟨⟨t + 1, by omega, by go_num, below_drewN hbi _⟩, ?_⟩; (simp [intOf]; omega)) | (go_roundw; (case rel => first | exact ⟨t + 1, by omega, by go_num, below_drewN hbi _⟩ | ((try refine ⟨trivial, ?_⟩); (repeat apply Exists.intro); exact ⟨⟨t + 1, by omega, by go_num, below_drewN hbi _⟩, rfl⟩)); (case measure => (simp [intOf]; omega)))
                                                      · go_wp2
                                                        first | (refine ⟨⟨k + 1, by omega, by go_num, hbU⟩, ?_⟩; (simp [intOf]; omega)) | (go_roundw; (case rel => first | exact ⟨k + 1, by omega, by go_num, hbU⟩ | ((try refine ⟨trivial, ?_⟩); (repeat apply Exists.intro); exact ⟨⟨k + 1, by omega, by go_num, hbU⟩, rfl⟩)); (case measure => (simp [intOf]; omega)))
                                                · skip
                                                  as_aux_lemma =>
                                                    obtain ⟨e1, e2⟩ := HTA.out.own y HMy.out he
                                                    rw [HHH.out] at e1
                                                    have t1 : (y.fCount != H) = false := by rw [e1]; simp
                                                    have t2 : (y.fPrice != z.fPrice) = false := by rw [e2]; simp
                                                    clear e1 e2
                                                    go_wp2_with fail
                                                    try rw [hW0]
                                                    clear hW0 hc0 hc1 hc2 hc3 t1 t2
                                                    obtain ⟨by_, hby⟩ : ∃ b, wr.heap.size = b := ⟨_, rfl⟩
                                                    rw [hby] at hy0 hy1 hy2 hy3 ⊢
                                                    clear hby
                                                    obtain ⟨wi, hwi⟩ : ∃ wi : World, wi = W0 := ⟨_, rfl⟩
                                                    subst hwi
                                                    have HYi : Hid ((wi.cell? ⟨by_, 0, none⟩ = some (.string y.fId) ∧ wi.cell? ⟨by_, 1, none⟩ = some (.int .i64 y.fCount) ∧ wi.cell? ⟨by_, 2, none⟩ = some (.int .i64 y.fLeast) ∧ wi.cell? ⟨by_, 3, none⟩ = some (.int .i64 y.fPrice)) ∧ (wi.cell? ⟨bz, 0, none⟩ = some (.string z.fId) ∧ wi.cell? ⟨bz, 1, none⟩ = some (.int .i64 z.fCount) ∧ wi.cell? ⟨bz, 2, none⟩ = some (.int .i64 z.fLeast) ∧ wi.cell? ⟨bz, 3, none⟩ = some (.int .i64 z.fPrice))) := Lib.hid ⟨⟨hy0, hy1, hy2, hy3⟩, ⟨hz0, hz1, hz2, hz3⟩⟩
                                                    clear hy0 hy1 hy2 hy3 hz0 hz1 hz2 hz3
                                                    go_loopw [37] (fun i wr => ∃ t : Nat, t ≤ n ∧ i = .int .i64 t ∧ Below wi.heap.size wi wr) (fun i _ => n - (intOf i).toNat)
                                                    case atStart => exact ⟨0, Nat.zero_le _, rfl, Below.refl _ _⟩
                                                    case round =>
                                                      obtain ⟨t, ht, rfl, hbi⟩ := hrel
                                                      obtain ⟨⟨ha0, ha1, ha2, ha3⟩, ⟨hd0, hd1, hd2, hd3⟩⟩ := HYi.out
                                                      have hy0 := cell_later hbi ha0
                                                      have hz0 := cell_later hbi hd0
                                                      have hy1 := cell_later hbi ha1
                                                      have hz1 := cell_later hbi hd1
                                                      have hy2 := cell_later hbi ha2
                                                      have hz2 := cell_later hbi hd2
                                                      have hy3 := cell_later hbi ha3
                                                      have hz3 := cell_later hbi hd3
                                                      clear ha0 ha1 ha2 ha3 hd0 hd1 hd2 hd3
                                                      have hbU := hb0.trans (hbi.mono hb0.size)
                                                      by_cases htn : t < n
                                                      · skip
                                                        as_aux_lemma =>
                                                          obtain ⟨b, off, rfl, hcs⟩ := HR13.out.2 (by omega)
                                                          obtain ⟨x, hx⟩ : ∃ x, l[t]? = some x := ⟨_, List.getElem?_eq_getElem (by have := HL.out; omega)⟩
                                                          have hcr := range_below (B := 0) (hcs t x hx) hbU
                                                          have hc0 := hcr 0 _ rfl
                                                          have hc1 := hcr 1 _ rfl
                                                          have hc2 := hcr 2 _ rfl
                                                          have hc3 := hcr 3 _ rfl
                                                          simp only [goodE, Nat.add_zero] at hc0 hc1 hc2 hc3
                                                          have HMx := Lib.hid (mem_of_get hx)
                                                          clear hcs hcr hx
                                                          rcases hxy : x.fId.toList == y.fId.toList with _ | _
                                                          · go_wp2_with fail
                                                            go_quiet (fail)
                                                            go_wp2
                                                            first | (refine ⟨⟨t + 1, by omega, by go_num, below_drewN hbi _⟩, ?_⟩; (simp [intOf]; omega)) | (go_roundw; (case rel => first | exact ⟨t + 1, by omega, by go_num, below_drewN hbi _⟩ | ((try refine ⟨trivial, ?_⟩); (repeat apply Exists.intro); exact ⟨⟨t + 1, by omega, by go_num, below_drewN hbi _⟩, rfl⟩)); (case measure => (simp [intOf]; omega)))
                                                          · have hen : (y.fId.toList != z.fId.toList) = false := by unfold bne; rw [he]; rfl
                                                            go_wp2_with fail
                                                            go_quiet (fail)
                                                            go_wp2
                                                            first | (refine ⟨⟨t + 1, by omega, by go_num, below_drewN hbi _⟩, ?_⟩; (simp [intOf]; omega)) | (go_roundw; (case rel => first | exact ⟨t + 1, by omega, by go_num, below_drewN hbi _⟩ | ((try refine ⟨trivial, ?_⟩); (repeat apply Exists.intro); exact ⟨⟨t + 1, by omega, by go_num, below_drewN hbi _⟩, rfl⟩)); (case measure => (simp [intOf]; omega)))
                                                      · go_wp2
                                                        first | (refine ⟨⟨k + 1, by omega, by go_num, hbU⟩, ?_⟩; (simp [intOf]; omega)) | (go_roundw; (case rel => first | exact ⟨k + 1, by omega, by go_num, hbU⟩ | ((try refine ⟨trivial, ?_⟩); (repeat apply Exists.intro); exact ⟨⟨k + 1, by omega, by go_num, hbU⟩, rfl⟩)); (case measure => (simp [intOf]; omega)))
                                            · go_wp2
                                              go_ret
                                              exact ⟨rfl, HB13.out.trans (hb.mono HB13.out.size)⟩
end Go.Proofs.YtfogginmdglagaaGreatDoor
