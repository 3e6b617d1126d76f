/- The rentals of blocks: both sides. Printed by a program of mine. -/
import Derived.Test.YtndbppplkfpgnaaGreatDoorRows
import Derived.Test.YtndbppplkfpgnaaGreatDoorRoLaw
import Derived.Test.YtndbppplkfpgnaaGreatDoorCRental
import Derived.Test.YtndbppplkfpgnaaGreatDoorArcLaw
import Derived.Test.YtndbppplkfpgnaaGreatDoorTwo
namespace Go.Proofs.YtndbppplkfpgnaaGreatDoor
set_option linter.unusedVariables false
set_option linter.unusedSimpArgs false
set_option linter.unusedSectionVars false
open Go.RowKit

theorem Tryz.info_RentalR : (Tryz.prog.info? 40).map (fun i => (i.zero, i.size, i.bytes)) = some (some (.agg #[.string ⟨#[]⟩, .string ⟨#[]⟩, .int .i64 0, .int .i64 0, .int .i64 0]), 5, 56) := by kernel_rfl
set_option maxRecDepth 100000 in
set_option maxHeartbeats 4000000 in
theorem S_RentalsOfBlocks (A : Option Addr) (n c : Nat) (l : List DBlock) (w : World) (hr : Rd blockE w A n l) (hn : n ≤ 1048576) (hg : ∀ x ∈ l, x.good) (hsum : sumBlock l ≤ 1048576) :
    Calls Tryz.prog 5 #[.slice A n c] w (RetLC rentalE 40 (roL l) (roC l) w) := by
  have Hl := Lib.hid hr.1
  obtain ⟨j0, gi, gz0, gz1, gz2⟩ := info_parts Tryz.info_RentalR
  have GZ := Lib.hid (And.intro gz0 gz1); clear gz0 gz1
  have hok := s_l29Ok A n c l w hr (by unfold maxLen; omega) hg
  rcases hB : blocksB l with _ | _
  · have E := Lib.hid (ro_bad hB)
    rw [hB] at hok
    clear hB
    go_enter Tryz.func5, Tryz.ntmps5
    go_wp2_with fail
    refine hok.mono ?_
    rintro e w1 ⟨rfl, hb1⟩
    clear hok
    go_wp2
    go_ret2
    exact RetLC.nil E.out.1 E.out.2 hb1
  · have HB := Lib.hid hB
    obtain ⟨hm, h32⟩ := blocks_mem hB
    have HM := Lib.hid hm
    have hn32 : n ≤ 32 := by have := Hl.out; omega
    rw [hB] at hok
    clear hB hm h32
    go_enter Tryz.func5, Tryz.ntmps5
    go_wp2_with fail
    refine hok.mono ?_
    rintro e w1 ⟨rfl, hb1⟩
    clear hok
    have hz1 := hb1.size
    have hr1 := hr.below hb1
    have hgl0 : GL rentalE 40 w1.heap.size (w1.alloc (.cells #[] 40)) (.slice (some ⟨w1.heap.size, 0, none⟩) 0 0) [] := GL.mk0 (Nat.le_refl _)
    have hb0 : Below w1.heap.size w1 (w1.alloc (.cells #[] 40)) := (Below.refl _ _).alloc (Nat.le_refl _) _
    go_wp2_with fail
    go_loopw [4, 5] (fun v i wr => ∃ (k z : Nat) (r : List DRental) (A' : Option Addr) (c' : Nat), k ≤ n ∧ i = .int .i64 k ∧ v = .slice A' z c' ∧ GL rentalE 40 w1.heap.size wr (.slice A' z c') r ∧ z ≤ k ∧ Below w1.heap.size w1 wr ∧ Hid (roT l k = .inr r)) (fun _ i _ => n - (intOf i).toNat)
    case atStart => exact ⟨0, 0, [], _, _, Nat.zero_le _, rfl, rfl, hgl0, Nat.le_refl _, hb0, Lib.hid rfl⟩
    case round =>
      clear hb0 hgl0
      obtain ⟨k, z, r, A', c', hk, rfl, rfl, hgl, hzk, hb, HR⟩ := hrel
      by_cases hlt : k < n
      · obtain ⟨b, off, x, hA, hx, hc⟩ := hr1.get hlt
        subst hA
        have hxs := block_small (HM.out x (List.mem_of_getElem? hx))
        have hcw := range_below (B := 0) hc hb
        have hc0 := hcw 0 (.string x.fKind) rfl
        have hc1 := hcw 1 (.string x.fName) rfl
        have hc2 := hcw 2 (.string x.fText) rfl
        simp only [blockE, Nat.add_zero] at hc0 hc1 hc2
        have HX := Lib.hid hx
        have hkl : k + 1 ≤ l.length := by have := Hl.out; omega
        have HKL := Lib.hid hkl
        have hs400 : x.fText.size ≤ 400 := hxs.2.2
        clear hc hcw hx hxs hkl
        obtain ⟨wq, rfl⟩ : ∃ wq : World, wq = wr := ⟨_, rfl⟩
        have hbq := hb1.trans (hb.mono hz1)
        have hglq := hgl
        have hbQ := hb
        by_cases hkd : x.fKind = rentKd
        rotate_left
        · have HK := Lib.hid (ro_other HX.out HR.out hkd)
          have ht : (x.fKind.toList == [114, 101, 110, 116, 97, 108]) = false := by
            rw [beq_eq_false_iff_ne, ByteArray.toList_eq]
            intro e
            apply hkd
            rw [← ofL_self x.fKind, e]
            rfl
          clear hkd
          go_wp2
          first | (refine ⟨⟨k + 1, z, r, A', c', by omega, by go_num, rfl, hglq, by omega, hbQ, HK⟩, ?_⟩; (simp [intOf]; omega)) | (go_roundw; (case rel => first | exact ⟨k + 1, z, r, A', c', by omega, by go_num, rfl, hglq, by omega, hbQ, HK⟩ | ((try refine ⟨trivial, ?_⟩); (repeat apply Exists.intro); exact ⟨⟨k + 1, z, r, A', c', by omega, by go_num, rfl, hglq, by omega, hbQ, HK⟩, rfl⟩)); (case measure => (simp [intOf]; omega)))
        · have ht : (x.fKind.toList == [114, 101, 110, 116, 97, 108]) = true := by rw [hkd, ByteArray.toList_eq]; rfl
          have hread := S_ReadRental x.fText wq (by omega)
          have HKD := Lib.hid hkd
          clear hkd
          cases hO : rentalO x.fText with
          | none =>
            have E := Lib.hid (ro_err HB.out (ro_at (ro_none HX.out HR.out HKD.out hO) HKL.out))
            rw [rentalOk_none hO] at hread
            clear hO
            go_wp2_with fail
            refine hread.mono ?_
            rintro e w3 ⟨y, Hy, rfl, hb3⟩
            have hbF := (hbq.trans (hb3.mono hbq.size)).alloc (Nat.le_trans hbq.size hb3.size) (.cells #[.string y.fId, .string y.fItem, .int .i64 y.fDay, .int .i64 y.fMonths, .int .i64 y.fFee] 40)
            clear hread
            go_wp2
            go_ret2
            exact RetLC.nil E.out.1 E.out.2 hbF
          | some y0 =>
            obtain ⟨hv1, hv2⟩ := rentalV_some hO
            rw [hv2] at hread
            have HV := Lib.hid hv1
            have HO := Lib.hid hO
            clear hv1 hv2 hO
            go_wp2_with fail
            refine hread.mono ?_
            rintro e w3 ⟨y, Hy, rfl, hb3⟩
            have hyy : y = y0 := Hy.out.trans HV.out
            subst hyy
            clear hread Hy HV
            have hglR := (hglq.below hb3).alloc (.cells #[.string y.fId, .string y.fItem, .int .i64 y.fDay, .int .i64 y.fMonths, .int .i64 y.fFee] 40)
            have hbN := hbQ.trans (hb3.mono hbQ.size)
            have hbR : Below w1.heap.size w1 (w3.alloc (.cells #[.string y.fId, .string y.fItem, .int .i64 y.fDay, .int .i64 y.fMonths, .int .i64 y.fFee] 40)) := hbN.alloc hbN.size _
            have hbZ := hb1.trans (hbR.mono hz1)
            have hcy := range_new w3 #[.string y.fId, .string y.fItem, .int .i64 y.fDay, .int .i64 y.fMonths, .int .i64 y.fFee] 40
            have hf0 := hcy 0 _ rfl
            have hf1 := hcy 1 _ rfl
            have hf2 := hcy 2 _ rfl
            have hf3 := hcy 3 _ rfl
            have hf4 := hcy 4 _ rfl
            simp only [Nat.zero_add] at hf0 hf1 hf2 hf3 hf4
            have ha3 : Below w3.heap.size w3 (w3.alloc (.cells #[.string y.fId, .string y.fItem, .int .i64 y.fDay, .int .i64 y.fMonths, .int .i64 y.fFee] 40)) := (Below.refl _ _).alloc (Nat.le_refl _) _
            have hxn := cell_later ha3 (cell_later hb3 hc1)
            clear hcy ha3 hbN
            obtain ⟨W0, hW0⟩ : ∃ W0, w3.alloc (.cells #[.string y.fId, .string y.fItem, .int .i64 y.fDay, .int .i64 y.fMonths, .int .i64 y.fFee] 40) = W0 := ⟨_, rfl⟩
            rw [hW0] at hglR hbR hbZ hxn hf0 hf1 hf2 hf3 hf4
            obtain ⟨b3, hb3e⟩ : ∃ q, w3.heap.size = q := ⟨_, rfl⟩
            rw [hb3e] at hf0 hf1 hf2 hf3 hf4
            by_cases hid : y.fId = x.fName
            · have HK := Lib.hid (ro_in HX.out HR.out HKD.out HO.out hid)
              have hn1 : (y.fId.toList == x.fName.toList) = true := by rw [hid]; simp
              have hn2 : (y.fId.toList != x.fName.toList) = false := by unfold bne; rw [hn1]; rfl
              clear hid
              go_wp2_with fail
              try rw [hW0]
              try rw [hb3e]
              clear hW0 hb3e
              go_quiet (fail)
              generalize hwq : World.drewN W0 _ = W9
              have hglD : GL rentalE 40 w1.heap.size W9 (.slice A' z c') r := by rw [← hwq]; exact hglR.below (below_drewN (Below.refl _ _) _)
              have hbD : Below w1.heap.size w1 W9 := by rw [← hwq]; exact below_drewN hbR _
              have hbY : Below w.heap.size w W9 := by rw [← hwq]; exact below_drewN hbZ _
              have hd0 : W9.cell? ⟨b3, 0, none⟩ = some (.string y.fId) := by rw [← hwq]; exact hf0
              have hd1 : W9.cell? ⟨b3, 1, none⟩ = some (.string y.fItem) := by rw [← hwq]; exact hf1
              have hd2 : W9.cell? ⟨b3, 2, none⟩ = some (.int .i64 y.fDay) := by rw [← hwq]; exact hf2
              have hd3 : W9.cell? ⟨b3, 3, none⟩ = some (.int .i64 y.fMonths) := by rw [← hwq]; exact hf3
              have hd4 : W9.cell? ⟨b3, 4, none⟩ = some (.int .i64 y.fFee) := by rw [← hwq]; exact hf4
              clear hf0 hf1 hf2 hf3 hf4 hglR hbR hbZ hwq hxn
              have hlo := hglD.lt
              have hbz := hbD.size
              go_wp2_with (at_builtin; refine wpList_pushO rentalE rfl _ _ 24 rfl w1.heap.size 40 j0 _ 56 Tryz.underlying24 gi GZ.out.1 GZ.out.2 gz2 rfl A' z c' r y rfl (hglD.alloc _) W9.heap.size rfl (range_new _ _ _) (by omega) (by decide) (by first | (simp; done) | (simp; omega)) ?_; intro A2 c2 w6 hgl6 ht6 _)
              have hb6 := Below.touch (hbD.alloc hbz (.cells #[.string y.fId, .string y.fItem, .int .i64 y.fDay, .int .i64 y.fMonths, .int .i64 y.fFee] 40)) ht6 (fun q hq => (hlo q hq).1) (by first | (simp; done) | (simp; omega))
              first | (refine ⟨⟨k + 1, z + 1, r ++ [y], A2, c2, by omega, by go_num, rfl, hgl6, by omega, hb6, HK⟩, ?_⟩; (simp [intOf]; omega)) | (go_roundw; (case rel => first | exact ⟨k + 1, z + 1, r ++ [y], A2, c2, by omega, by go_num, rfl, hgl6, by omega, hb6, HK⟩ | ((try refine ⟨trivial, ?_⟩); (repeat apply Exists.intro); exact ⟨⟨k + 1, z + 1, r ++ [y], A2, c2, by omega, by go_num, rfl, hgl6, by omega, hb6, HK⟩, rfl⟩)); (case measure => (simp [intOf]; omega)))
            · have E := Lib.hid (ro_err HB.out (ro_at (ro_state HX.out HR.out HKD.out HO.out hid) HKL.out))
              have hn1 : (y.fId.toList == x.fName.toList) = false := by
                rw [beq_eq_false_iff_ne, ByteArray.toList_eq, ByteArray.toList_eq]
                intro e
                apply hid
                rw [← ofL_self y.fId, e, ofL_self]
              have hn2 : (y.fId.toList != x.fName.toList) = true := by unfold bne; rw [hn1]; rfl
              clear hid
              go_wp2_with fail
              try rw [hW0]
              try rw [hb3e]
              clear hW0 hb3e
              go_quiet (fail)
              generalize hwq : World.drewN W0 _ = W9
              have hglD : GL rentalE 40 w1.heap.size W9 (.slice A' z c') r := by rw [← hwq]; exact hglR.below (below_drewN (Below.refl _ _) _)
              have hbD : Below w1.heap.size w1 W9 := by rw [← hwq]; exact below_drewN hbR _
              have hbY : Below w.heap.size w W9 := by rw [← hwq]; exact below_drewN hbZ _
              have hd0 : W9.cell? ⟨b3, 0, none⟩ = some (.string y.fId) := by rw [← hwq]; exact hf0
              have hd1 : W9.cell? ⟨b3, 1, none⟩ = some (.string y.fItem) := by rw [← hwq]; exact hf1
              have hd2 : W9.cell? ⟨b3, 2, none⟩ = some (.int .i64 y.fDay) := by rw [← hwq]; exact hf2
              have hd3 : W9.cell? ⟨b3, 3, none⟩ = some (.int .i64 y.fMonths) := by rw [← hwq]; exact hf3
              have hd4 : W9.cell? ⟨b3, 4, none⟩ = some (.int .i64 y.fFee) := by rw [← hwq]; exact hf4
              clear hf0 hf1 hf2 hf3 hf4 hglR hbR hbZ hwq hxn
              go_wp2
              go_ret2
              exact RetLC.nil E.out.1 E.out.2 hbY
      · have hkn : k = l.length := by have := Hl.out; omega
        have hrl := hgl.len
        have hbF := hb1.trans (hb.mono hz1)
        have hgz := hgl.mono hz1
        by_cases h12 : z ≤ 12
        · have E := Lib.hid (ro_good HB.out (by rw [← hkn]; exact HR.out) (by omega))
          clear hkn hrl
          go_wp2
          go_ret2
          exact RetLC.mk hgz (by omega) E.out.1 E.out.2 hbF
        · have E := Lib.hid (ro_full HB.out (by rw [← hkn]; exact HR.out) (by omega))
          clear hkn hrl
          go_wp2
          go_ret2
          exact RetLC.nil E.out.1 E.out.2 hbF

set_option maxRecDepth 100000 in
set_option maxHeartbeats 4000000 in
theorem I_RentalsOfBlocks (A : Option Addr) (n c : Nat) (l : List DBlock) (w : World) (hr : Rd blockE w A n l) (hn : n ≤ 1048576) (hg : ∀ x ∈ l, x.good) (hsum : sumBlock l ≤ 1048576) (hL : LibW w) :
    Calls Tryz.prog 7 #[.slice A n c] w (RetLC rentalE 40 (roL l) (roC l) w) := by
  have Hl := Lib.hid hr.1
  obtain ⟨j0, gi, gz0, gz1, gz2⟩ := info_parts Tryz.info_RentalR
  have GZ := Lib.hid (And.intro gz0 gz1); clear gz0 gz1
  have hok := i_ValidBlocks A n c l w hr (by unfold maxLen; omega) hg
  rcases hB : blocksB l with _ | _
  · have E := Lib.hid (ro_bad hB)
    rw [hB] at hok
    clear hB
    go_enter Tryz.func7, Tryz.ntmps7
    go_wp2_with fail
    refine hok.mono ?_
    rintro e w1 ⟨rfl, hb1⟩
    clear hok
    go_wp2
    go_ret2
    exact RetLC.nil E.out.1 E.out.2 hb1
  · have HB := Lib.hid hB
    obtain ⟨hm, h32⟩ := blocks_mem hB
    have HM := Lib.hid hm
    have hn32 : n ≤ 32 := by have := Hl.out; omega
    rw [hB] at hok
    clear hB hm h32
    go_enter Tryz.func7, Tryz.ntmps7
    go_wp2_with fail
    refine hok.mono ?_
    rintro e w1 ⟨rfl, hb1⟩
    clear hok
    have hz1 := hb1.size
    have hr1 := hr.below hb1
    have hgl0 : GL rentalE 40 w1.heap.size (w1.alloc (.cells #[] 40)) (.slice (some ⟨w1.heap.size, 0, none⟩) 0 0) [] := GL.mk0 (Nat.le_refl _)
    have hb0 : Below w1.heap.size w1 (w1.alloc (.cells #[] 40)) := (Below.refl _ _).alloc (Nat.le_refl _) _
    go_wp2_with fail
    go_loopw [4, 15] (fun v i wr => ∃ (k z : Nat) (r : List DRental) (A' : Option Addr) (c' : Nat), k ≤ n ∧ i = .int .i64 k ∧ v = .slice A' z c' ∧ GL rentalE 40 w1.heap.size wr (.slice A' z c') r ∧ z ≤ k ∧ Below w1.heap.size w1 wr ∧ Hid (roT l k = .inr r)) (fun _ i _ => n - (intOf i).toNat)
    case atStart => exact ⟨0, 0, [], _, _, Nat.zero_le _, rfl, rfl, hgl0, Nat.le_refl _, hb0, Lib.hid rfl⟩
    case round =>
      clear hb0 hgl0
      obtain ⟨k, z, r, A', c', hk, rfl, rfl, hgl, hzk, hb, HR⟩ := hrel
      by_cases hlt : k < n
      · obtain ⟨b, off, x, hA, hx, hc⟩ := hr1.get hlt
        subst hA
        have hxs := block_small (HM.out x (List.mem_of_getElem? hx))
        have hcw := range_below (B := 0) hc hb
        have hc0 := hcw 0 (.string x.fKind) rfl
        have hc1 := hcw 1 (.string x.fName) rfl
        have hc2 := hcw 2 (.string x.fText) rfl
        simp only [blockE, Nat.add_zero] at hc0 hc1 hc2
        have HX := Lib.hid hx
        have hkl : k + 1 ≤ l.length := by have := Hl.out; omega
        have HKL := Lib.hid hkl
        have hs400 : x.fText.size ≤ 400 := hxs.2.2
        clear hc hcw hx hxs hkl
        have hbw : Below wr.heap.size wr (wr.alloc (.cells #[.string x.fKind, .string x.fName, .string x.fText] 38)) := (Below.refl _ _).alloc (Nat.le_refl _) _
        have hxR := range_new wr #[.string x.fKind, .string x.fName, .string x.fText] 38
        obtain ⟨wq, hWq⟩ : ∃ wq, wr.alloc (.cells #[.string x.fKind, .string x.fName, .string x.fText] 38) = wq := ⟨_, rfl⟩
        rw [hWq] at hbw hxR
        have hglq := hgl.below hbw
        have hbQ := hb.trans (hbw.mono hb.size)
        have hbq := hb1.trans (hbQ.mono hz1)
        have hy0 := hxR 0 _ rfl
        have hy1 := hxR 1 _ rfl
        have hy2 := hxR 2 _ rfl
        simp only [Nat.zero_add] at hy0 hy1 hy2
        obtain ⟨bq, hbqe⟩ : ∃ q, wr.heap.size = q := ⟨_, rfl⟩
        rw [hbqe] at hy0 hy1 hy2
        clear hxR hbw hgl hb
        by_cases hkd : x.fKind = rentKd
        rotate_left
        · have HK := Lib.hid (ro_other HX.out HR.out hkd)
          have ht : (x.fKind.toList == [114, 101, 110, 116, 97, 108]) = false := by
            rw [beq_eq_false_iff_ne, ByteArray.toList_eq]
            intro e
            apply hkd
            rw [← ofL_self x.fKind, e]
            rfl
          clear hkd
          go_wp2
          first | (refine ⟨⟨k + 1, z, r, A', c', by omega, by go_num, rfl, hglq, by omega, hbQ, HK⟩, ?_⟩; (simp [intOf]; omega)) | (go_roundw; (case rel => first | exact ⟨k + 1, z, r, A', c', by omega, by go_num, rfl, hglq, by omega, hbQ, HK⟩ | ((try refine ⟨trivial, ?_⟩); (repeat apply Exists.intro); exact ⟨⟨k + 1, z, r, A', c', by omega, by go_num, rfl, hglq, by omega, hbQ, HK⟩, rfl⟩)); (case measure => (simp [intOf]; omega)))
        · have ht : (x.fKind.toList == [114, 101, 110, 116, 97, 108]) = true := by rw [hkd, ByteArray.toList_eq]; rfl
          have hread := I_ReadRental x.fText wq (by omega) (hL.below hbq)
          have HKD := Lib.hid hkd
          clear hkd
          cases hO : rentalO x.fText with
          | none =>
            have E := Lib.hid (ro_err HB.out (ro_at (ro_none HX.out HR.out HKD.out hO) HKL.out))
            rw [rentalOk_none hO] at hread
            clear hO
            go_wp2_with fail
            try rw [hbqe]
            try rw [hWq]
            clear hWq hbqe
            refine hread.mono ?_
            rintro e w3 ⟨y, Hy, rfl, hb3⟩
            have hbF := (hbq.trans (hb3.mono hbq.size)).alloc (Nat.le_trans hbq.size hb3.size) (.cells #[.string y.fId, .string y.fItem, .int .i64 y.fDay, .int .i64 y.fMonths, .int .i64 y.fFee] 40)
            clear hread
            go_wp2
            go_ret2
            exact RetLC.nil E.out.1 E.out.2 hbF
          | some y0 =>
            obtain ⟨hv1, hv2⟩ := rentalV_some hO
            rw [hv2] at hread
            have HV := Lib.hid hv1
            have HO := Lib.hid hO
            clear hv1 hv2 hO
            go_wp2_with fail
            try rw [hbqe]
            try rw [hWq]
            clear hWq hbqe
            refine hread.mono ?_
            rintro e w3 ⟨y, Hy, rfl, hb3⟩
            have hyy : y = y0 := Hy.out.trans HV.out
            subst hyy
            clear hread Hy HV
            have hglR := (hglq.below hb3).alloc (.cells #[.string y.fId, .string y.fItem, .int .i64 y.fDay, .int .i64 y.fMonths, .int .i64 y.fFee] 40)
            have hbN := hbQ.trans (hb3.mono hbQ.size)
            have hbR : Below w1.heap.size w1 (w3.alloc (.cells #[.string y.fId, .string y.fItem, .int .i64 y.fDay, .int .i64 y.fMonths, .int .i64 y.fFee] 40)) := hbN.alloc hbN.size _
            have hbZ := hb1.trans (hbR.mono hz1)
            have ha3 : Below w3.heap.size w3 (w3.alloc (.cells #[.string y.fId, .string y.fItem, .int .i64 y.fDay, .int .i64 y.fMonths, .int .i64 y.fFee] 40)) := (Below.refl _ _).alloc (Nat.le_refl _) _
            have hxn := cell_later ha3 (cell_later hb3 hy1)
            have hbz3 := hbN.size
            clear ha3 hbN
            clear hy0 hy1 hy2
            by_cases hid : y.fId = x.fName
            · have HK := Lib.hid (ro_in HX.out HR.out HKD.out HO.out hid)
              have hn1 : (y.fId.toList == x.fName.toList) = true := by rw [hid]; simp
              have hn2 : (y.fId.toList != x.fName.toList) = false := by unfold bne; rw [hn1]; rfl
              clear hid
              have hlo := hglR.lt
              have hbz := hbR.size
              go_wp2_with (at_builtin; refine wpList_pushO rentalE rfl _ _ 24 rfl w1.heap.size 40 j0 _ 56 Tryz.underlying24 gi GZ.out.1 GZ.out.2 gz2 rfl A' z c' r y rfl (hglR.alloc _) _ rfl (range_new' _ _ _ (by first | rfl | simp)) (by omega) (by decide) (by first | (simp; done) | (simp; omega)) ?_; intro A2 c2 w6 hgl6 ht6 _)
              have hb6 := Below.touch (hbR.alloc hbz (.cells #[.string y.fId, .string y.fItem, .int .i64 y.fDay, .int .i64 y.fMonths, .int .i64 y.fFee] 40)) ht6 (fun q hq => (hlo q hq).1) (by first | (simp; done) | (simp; omega))
              first | (refine ⟨⟨k + 1, z + 1, r ++ [y], A2, c2, by omega, by go_num, rfl, hgl6, by omega, hb6, HK⟩, ?_⟩; (simp [intOf]; omega)) | (go_roundw; (case rel => first | exact ⟨k + 1, z + 1, r ++ [y], A2, c2, by omega, by go_num, rfl, hgl6, by omega, hb6, HK⟩ | ((try refine ⟨trivial, ?_⟩); (repeat apply Exists.intro); exact ⟨⟨k + 1, z + 1, r ++ [y], A2, c2, by omega, by go_num, rfl, hgl6, by omega, hb6, HK⟩, rfl⟩)); (case measure => (simp [intOf]; omega)))
            · have E := Lib.hid (ro_err HB.out (ro_at (ro_state HX.out HR.out HKD.out HO.out hid) HKL.out))
              have hn1 : (y.fId.toList == x.fName.toList) = false := by
                rw [beq_eq_false_iff_ne, ByteArray.toList_eq, ByteArray.toList_eq]
                intro e
                apply hid
                rw [← ofL_self y.fId, e, ofL_self]
              have hn2 : (y.fId.toList != x.fName.toList) = true := by unfold bne; rw [hn1]; rfl
              clear hid
              go_wp2
              go_ret2
              exact RetLC.nil E.out.1 E.out.2 hbZ
      · have hkn : k = l.length := by have := Hl.out; omega
        have hrl := hgl.len
        have hbF := hb1.trans (hb.mono hz1)
        have hgz := hgl.mono hz1
        by_cases h12 : z ≤ 12
        · have E := Lib.hid (ro_good HB.out (by rw [← hkn]; exact HR.out) (by omega))
          clear hkn hrl
          have hfew : decide ((z : Int) ≤ 12) = true := decide_eq_true (by omega)
          go_wp2_with fail
          refine (i_few _ _ _ (by omega) (by omega)).mono ?_
          rintro e w' ⟨rfl, rfl⟩
          try rw [hfew]
          go_wp2
          go_ret2
          exact RetLC.mk hgz (by omega) E.out.1 E.out.2 hbF
        · have E := Lib.hid (ro_full HB.out (by rw [← hkn]; exact HR.out) (by omega))
          clear hkn hrl
          have hfew : decide ((z : Int) ≤ 12) = false := decide_eq_false (by omega)
          go_wp2_with fail
          refine (i_few _ _ _ (by omega) (by omega)).mono ?_
          rintro e w' ⟨rfl, rfl⟩
          try rw [hfew]
          go_wp2
          go_ret2
          exact RetLC.nil E.out.1 E.out.2 hbF

end Go.Proofs.YtndbppplkfpgnaaGreatDoor
