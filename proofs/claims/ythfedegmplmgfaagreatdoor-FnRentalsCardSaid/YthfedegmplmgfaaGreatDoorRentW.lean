/- The walk of the law on rentals. Printed by a program of mine. -/
import Derived.Test.YthfedegmplmgfaaGreatDoorRows
import Derived.Test.YthfedegmplmgfaaGreatDoorRentH
import Derived.Test.YthfedegmplmgfaaGreatDoorRentF
import Derived.Test.YthfedegmplmgfaaGreatDoorDrawRRental
import Derived.Test.YthfedegmplmgfaaGreatDoorLawB
import Derived.Test.YthfedegmplmgfaaGreatDoorLoopU
import Derived.Deep.DeepCutAuto
namespace Go.Proofs.YthfedegmplmgfaaGreatDoor
set_option linter.unusedVariables false
set_option linter.unusedSimpArgs false
set_option linter.unusedSectionVars false
open Go.RowKit

def ExtP (n i : Nat) (x : DRental) (w' : World) (v : Value) (a : Int) : Prop := (∃ g, v = .slice (some ⟨g, 0, none⟩) n n ∧ a = 0 ∧ w'.cell? ⟨g, i * 5 + 3, none⟩ = some (.int .i64 (x.fMonths + 1))) ∨ (v = .slice none 0 0 ∧ a = 6)
theorem ExtR.one {n i : Nat} {x : DRental} {w w' : World} {e : Ending} (h : ExtR n i x w e w') : ∃ (v : Value) (a : Int), ExtP n i x w' v a ∧ e = .returned (.tuple #[v, .int .i64 a]) ∧ Below w.heap.size w w' := by
  obtain ⟨⟨g, rfl, hc⟩ | rfl, hb⟩ := h
  · exact ⟨_, 0, .inl ⟨g, rfl, rfl, hc⟩, rfl, hb⟩
  · exact ⟨_, 6, .inr ⟨rfl, rfl⟩, rfl, hb⟩
def ManyP (fee v s f g : Int) : Prop := (∃ n : Nat, f = n ∧ g = 0 ∧ n ≤ 120 ∧ v ≤ fee * n * s / 1000 ∧ (0 < n → fee * ((n : Int) - 1) * s / 1000 < v)) ∨ (f = 0 ∧ g = 3 ∧ fee * 120 * s / 1000 < v)
theorem com3 (a b c : Int) : a * b * c = c * b * a := by rw [Int.mul_comm (a * b) c, Int.mul_comm a b, ← Int.mul_assoc]
theorem ManyR.one {fee v s : Int} {w w' : World} {e : Ending} (h : ManyR fee v s w e w') : ∃ f g : Int, ManyP fee v s f g ∧ e = .returned (.tuple #[.int .i64 f, .int .i64 g]) ∧ Below w.heap.size w w' := by
  obtain ⟨⟨n, h1, h2, h3, rfl⟩ | ⟨h1, rfl⟩, hb⟩ := h
  · refine ⟨n, 0, .inl ⟨n, rfl, rfl, h1, ?_, fun h0 => ?_⟩, rfl, hb⟩
    · rw [com3]; exact h2
    · have := h3 (n - 1) (by omega)
      rw [com3, show ((n : Int) - 1) = ((n - 1 : Nat) : Int) by omega]
      exact this
  · refine ⟨0, 3, .inr ⟨rfl, rfl, ?_⟩, rfl, hb⟩
    rw [com3]
    exact h1 120 (by omega)
def violin : ByteArray := ⟨#[118, 105, 111, 108, 105, 110]⟩
theorem violin_ok : nameB violin = true ∧ violin.size ≤ maxLen := by
  have h : nameB violin = true := by
    simp only [violin, nameB, ByteArray.toList_eq]
    decide
  exact ⟨h, by show (6 : Nat) ≤ maxLen; unfold maxLen; omega⟩
theorem violin_list : violin.toList = [118, 105, 111, 108, 105, 110] := by rw [ByteArray.toList_eq]; rfl
theorem openR_eq {x : DRental} (h : RB x) {it : ByteArray} {m d : Int} (hm : 1 ≤ m) : openR it m d x = ((!(x.fItem.toList == it.toList) || decide (d + 30 * m ≤ x.fDay)) || decide (endR x ≤ d)) := by
  have h1 := h.end_
  unfold openR clashR
  rw [show endR ⟨⟨#[]⟩, it, d, m, 0⟩ = d + 30 * m from rfl]
  show (!((x.fItem.toList == it.toList) && decide (max x.fDay d < min (endR x) (d + 30 * m)))) = _
  rcases x.fItem.toList == it.toList with _ | _
  · rfl
  · rw [Bool.true_and, Bool.not_true, Bool.false_or, ← Bool.decide_or, ← decide_not]
    exact decide_eq_decide.2 ⟨fun h => by omega, fun h => by omega⟩
theorem mul_rangeR {a b A B : Int} (a0 : 0 ≤ a) (a1 : a ≤ A) (b0 : 0 ≤ b) (b1 : b ≤ B) : 0 ≤ a * b ∧ a * b ≤ A * B :=
  ⟨Int.mul_nonneg a0 b0, Int.le_trans (Int.mul_le_mul_of_nonneg_right a1 b0) (Int.mul_le_mul_of_nonneg_left b1 (Int.le_trans a0 a1))⟩
set_option maxHeartbeats 1000000 in
theorem l_r8Same_yes (A A' : Option Addr) (n c c' : Nat) (ss : List Int) (w : World) (hr : Rd intE w A n ss) (hr' : Rd intE w A' n ss) (hn : n ≤ 1048576) :
    Calls Tryz.prog 16 #[.slice A n c, .slice A' n c'] w (RetB true w) := by
  go_enter Tryz.func16, Tryz.ntmps16
  go_wp2_with fail
  go_loopw [5] (fun i wr => ∃ k : Nat, k ≤ n ∧ i = .int .i64 k ∧ Below w.heap.size w wr) (fun i _ => n - (intOf i).toNat)
  case atStart => exact ⟨0, Nat.zero_le _, rfl, Below.refl _ _⟩
  case round =>
    obtain ⟨k, hk, rfl, hb⟩ := hrel
    by_cases hkn : k < n
    · obtain ⟨b, off, s, rfl, hks, hc⟩ := hr.get hkn
      obtain ⟨b', off', s', rfl, hks', hc'⟩ := hr'.get hkn
      obtain rfl : s = s' := Option.some.inj (hks.symm.trans hks')
      have hc0 := range_below (B := 0) hc hb 0 (.int .i64 s) rfl
      have hc0' := range_below (B := 0) hc' hb 0 (.int .i64 s) rfl
      simp only [intE, Nat.mul_one, Nat.add_zero] at hc0 hc0'
      clear hc hc' hks hks'
      go_wp2_with fail
      go_quiet (fail)
      go_wp2
      first | (refine ⟨⟨k + 1, by omega, by go_num, below_drewN hb _⟩, ?_⟩; (simp [intOf]; omega)) | (go_roundw; (case rel => first | exact ⟨k + 1, by omega, by go_num, below_drewN hb _⟩ | ((try refine ⟨trivial, ?_⟩); (repeat apply Exists.intro); exact ⟨⟨k + 1, by omega, by go_num, below_drewN hb _⟩, rfl⟩)); (case measure => (simp [intOf]; omega)))
    · go_wp2
      go_ret
      exact ⟨rfl, hb⟩
set_option maxRecDepth 100000 in
set_option maxHeartbeats 40000000 in
theorem w_Rentals (A0 : Option Addr) (n0 c0 : Nat) (l0 : List UInt8) (A1 : Option Addr) (n1 c1 : Nat) (l1 : List UInt8) (w : World) (hr0 : Rd byteE w A0 n0 l0) (hn0 : n0 ≤ maxLen) (hg0 : ∀ x ∈ l0, (0 : Int) ≤ (x.toNat : Int)) (hr1 : Rd byteE w A1 n1 l1) (hn1 : n1 ≤ maxLen) (hg1 : ∀ x ∈ l1, (0 : Int) ≤ (x.toNat : Int)) (hL : LibW w) :
    Calls Tryz.prog 3 #[.slice A0 n0 c0, .slice A1 n1 c1] w (RetB true w) := by
  clear hg0 hg1
  go_enter Tryz.func3, Tryz.ntmps3
  go_wp2_with fail
  refine (l_r8Long A0 A1 n0 c0 n1 c1 _ hn0 hn1).mono ?_
  rintro e w' ⟨rfl, rfl⟩
  rcases hlong : (decide (1048576 < n0) || decide (1048576 < n1)) with _ | _
  rotate_left
  · clear hlong
    go_wp2
    go_ret
    exact ⟨rfl, Below.refl _ _⟩
  have hs0 : n0 ≤ 1048576 ∧ n1 ≤ 1048576 := by
    rw [Bool.or_eq_false_iff, decide_eq_false_iff_not, decide_eq_false_iff_not] at hlong
    omega
  clear hlong
  go_wp2_with fail
  refine (s_R8Rentals A0 n0 c0 l0 w hr0 hs0.1).mono ?_
  rintro e w1 ⟨A, n, c, l, hql, hl, hn5, rfl, hgl, hB⟩
  have HS := Lib.hid hql.small
  have HO := Lib.hid hql.okAll
  have HL := Lib.hid hl
  have HR1 := Lib.hid hgl.rd
  have HB1 := Lib.hid hB
  clear hql hl hgl hB
  as_aux_lemma =>
    go_wp2_with fail
    refine (l_r8Wide A1 n1 c1 l1 0 1200 w1 (hr1.below HB1.out) hn1 (by omega) (by omega) (by omega)).mono ?_
    rintro e w' ⟨d, hd1, rfl, rfl⟩
    as_aux_lemma =>
      go_wp2_with fail
      refine (l_r8Wide A1 n1 c1 l1 2 300 w1 (hr1.below HB1.out) hn1 (by omega) (by omega) (by omega)).mono ?_
      rintro e w' ⟨u, hu3, rfl, rfl⟩
      obtain ⟨U, hU⟩ : ∃ U : Int, (d : Int) + (u : Int) = U := ⟨_, rfl⟩
      have hU0 : (d : Int) ≤ U := by omega
      have hU1 : U ≤ 1500 := by omega
      as_aux_lemma =>
        go_wp2_with fail
        clear hU hu3
        refine (i_ActiveOn A n c l d w1 HR1.out HO.out HS.out (by omega) (by omega)).mono ?_
        rintro e w2 ⟨AA, nA, cA, hlA, hnA, hoA, rfl, hb⟩
        have hrA : Rd strE w2 AA nA (actIds d l) := Rd.of_own hoA hlA
        have HLA := Lib.hid hlA
        clear hoA hlA
        as_aux_lemma =>
          go_wp2_with fail
          refine (i_ClashesOf A n c l w2 (HR1.out.below hb) HO.out HS.out).mono ?_
          rintro e w3 ⟨AC, z, cC, ps, hlz, hz, hrC, hrows, rfl, hb3⟩
          replace hrA := hrA.below hb3
          replace hb := hb.trans (hb3.mono hb.size)
          have HLZ := Lib.hid hlz
          clear hb3 hlz
          as_aux_lemma =>
            go_wp2_with fail
            refine (i_IncomeBetween A n c l d U w3 (HR1.out.below hb) HO.out HS.out (by omega) (by omega) (by omega)).mono ?_
            rintro e w4 ⟨rfl, hb4⟩
            replace hrA := hrA.below hb4
            replace hrC := hrC.below hb4
            replace hrows := hrows.below hb4
            replace hb := hb.trans (hb4.mono hb.size)
            clear hb4
            have hV := fun W hb => i_ValidRentals_yes A n c l W (HR1.out.below hb) HO.out
            as_aux_lemma =>
              go_wp2_with fail
              refine (hV _ hb).mono ?_
              rintro e w5 ⟨rfl, hb5⟩
              have HRA := Lib.hid (hrA.below hb5)
              have HRC := Lib.hid (hrC.below hb5)
              have HRW := Lib.hid (hrows.below hb5)
              replace hb := hb.trans (hb5.mono hb.size)
              have HR := Lib.hid (HR1.out.below hb)
              have HB := Lib.hid (HB1.out.trans (hb.mono HB1.out.size))
              clear hV hb5 hrA hrC hrows hb HR1 HB1
              as_aux_lemma =>
                go_wp2_with fail
                refine wp_loop_U (fun U_ => [.slice A0 n0 c0, .slice A1 n1 c1, U_ 2, U_ 3, U_ 4, .slice A n c, .int .i64 d, .int .i64 U, .slice AA nA cA, U_ 9, .slice AC z cC, U_ 11, U_ 12, U_ 13, U_ 14, U_ 15, U_ 16, U_ 17, U_ 18, U_ 19, U_ 20, U_ 21, U_ 22, U_ 23, U_ 24, U_ 25, U_ 26, U_ 27, U_ 28, U_ 29, U_ 30, U_ 31, U_ 32, U_ 33, U_ 34, U_ 35, U_ 36, U_ 37, U_ 38, U_ 39, U_ 40, U_ 41, U_ 42, U_ 43, U_ 44, U_ 45, U_ 46, U_ 47, U_ 48, U_ 49, U_ 50, U_ 51, U_ 52, U_ 53, U_ 54, U_ 55, U_ 56, U_ 57, U_ 58, U_ 59, U_ 60, U_ 61, U_ 62, U_ 63, U_ 64, U_ 65, U_ 66, U_ 67, U_ 68, U_ 69, U_ 70, U_ 71, U_ 72, U_ 73, U_ 74, U_ 75, U_ 76, U_ 77, U_ 78, U_ 79, U_ 80, U_ 81, U_ 82, U_ 83, U_ 84, U_ 85, U_ 86, U_ 87, U_ 88, U_ 89, U_ 90, U_ 91, U_ 92, U_ 93, U_ 94, U_ 95, U_ 96, U_ 97, U_ 98, U_ 99, U_ 100, U_ 101, U_ 102, U_ 103, U_ 104, U_ 105, U_ 106, U_ 107, U_ 108, U_ 109, U_ 110, U_ 111, U_ 112, U_ 113, U_ 114, U_ 115, U_ 116, U_ 117, U_ 118, U_ 119, U_ 120, U_ 121, U_ 122, U_ 123, U_ 124, U_ 125, U_ 126, U_ 127, U_ 128, U_ 129, U_ 130, U_ 131, U_ 132, U_ 133, U_ 134, U_ 135, U_ 136, U_ 137, U_ 138, U_ 139, U_ 140, U_ 141, U_ 142, U_ 143, U_ 144, U_ 145, U_ 146, U_ 147, U_ 148, U_ 149, U_ 150, U_ 151, U_ 152, U_ 153, U_ 154, U_ 155, U_ 156, U_ 157, U_ 158, U_ 159, U_ 160, U_ 161, U_ 162, U_ 163, U_ 164, U_ 165, U_ 166, U_ 167, U_ 168, U_ 169, U_ 170, U_ 171, U_ 172, U_ 173, U_ 174, U_ 175, U_ 176, U_ 177, U_ 178, U_ 179, U_ 180, U_ 181, U_ 182, U_ 183, U_ 184, U_ 185, U_ 186, U_ 187, U_ 188, U_ 189, U_ 190, U_ 191, U_ 192, U_ 193, U_ 194, U_ 195, U_ 196, U_ 197, U_ 198, U_ 199, U_ 200, U_ 201, U_ 202, U_ 203, U_ 204, U_ 205, U_ 206, U_ 207, U_ 208, U_ 209, U_ 210, U_ 211, U_ 212, U_ 213, U_ 214, U_ 215, U_ 216, U_ 217, U_ 218, U_ 219, U_ 220, U_ 221, U_ 222, U_ 223, U_ 224, U_ 225, U_ 226, U_ 227, U_ 228, U_ 229, U_ 230, U_ 231, U_ 232, U_ 233, U_ 234, U_ 235, U_ 236, U_ 237, U_ 238, U_ 239, U_ 240, U_ 241, U_ 242, U_ 243, U_ 244, U_ 245, U_ 246, U_ 247, U_ 248, U_ 249, U_ 250, U_ 251, U_ 252, U_ 253, U_ 254, U_ 255, U_ 256, U_ 257, U_ 258, U_ 259, U_ 260, U_ 261, U_ 262, U_ 263, U_ 264, U_ 265, U_ 266, U_ 267, U_ 268, U_ 269, U_ 270, U_ 271, U_ 272, U_ 273, U_ 274, U_ 275, U_ 276, U_ 277, U_ 278, U_ 279, U_ 280, U_ 281, U_ 282, U_ 283, U_ 284, U_ 285, U_ 286, U_ 287, U_ 288, U_ 289, U_ 290, U_ 291, U_ 292, U_ 293, U_ 294, U_ 295, U_ 296, U_ 297, U_ 298, U_ 299, U_ 300, U_ 301, U_ 302, U_ 303, U_ 304, U_ 305, U_ 306, U_ 307, U_ 308, U_ 309, U_ 310, U_ 311, U_ 312, U_ 313, U_ 314, U_ 315, U_ 316, U_ 317, U_ 318, U_ 319, U_ 320, U_ 321, U_ 322, U_ 323, U_ 324, U_ 325, U_ 326, U_ 327, U_ 328, U_ 329, U_ 330, U_ 331, U_ 332, U_ 333, U_ 334, U_ 335, U_ 336, U_ 337, U_ 338, U_ 339, U_ 340, U_ 341, U_ 342, U_ 343, U_ 344, U_ 345, U_ 346, U_ 347, U_ 348, U_ 349, U_ 350, U_ 351, U_ 352, U_ 353, U_ 354, U_ 355, U_ 356, U_ 357, U_ 358, U_ 359, U_ 360, U_ 361, U_ 362, U_ 363, U_ 364, U_ 365, U_ 366, U_ 367, U_ 368, U_ 369, U_ 370, U_ 371, U_ 372, U_ 373, U_ 374, U_ 375, U_ 376, U_ 377, U_ 378, U_ 379, U_ 380, U_ 381, U_ 382, U_ 383, U_ 384, U_ 385, U_ 386, U_ 387, U_ 388, U_ 389, U_ 390, U_ 391, U_ 392, U_ 393, U_ 394, U_ 395, U_ 396, U_ 397, U_ 398, U_ 399, U_ 400, U_ 401, U_ 402, U_ 403, U_ 404, U_ 405, U_ 406, U_ 407, U_ 408, U_ 409, U_ 410, U_ 411, U_ 412, U_ 413, U_ 414, U_ 415, U_ 416, U_ 417, U_ 418, U_ 419, U_ 420, U_ 421, U_ 422, U_ 423, U_ 424, U_ 425, U_ 426, U_ 427, U_ 428, U_ 429, U_ 430, U_ 431, U_ 432, U_ 433, U_ 434, U_ 435, U_ 436, U_ 437, U_ 438, U_ 439, U_ 440, U_ 441, U_ 442, U_ 443, U_ 444, U_ 445, U_ 446, U_ 447, U_ 448, U_ 449, U_ 450, U_ 451, U_ 452, U_ 453, U_ 454, U_ 455, U_ 456, U_ 457, U_ 458, U_ 459, U_ 460, U_ 461, U_ 462, U_ 463, U_ 464, U_ 465, U_ 466, U_ 467, U_ 468, U_ 469, U_ 470, U_ 471, U_ 472, U_ 473, U_ 474, U_ 475, U_ 476, U_ 477, U_ 478, U_ 479, U_ 480, U_ 481, U_ 482, U_ 483, U_ 484, U_ 485, U_ 486, U_ 487, U_ 488, U_ 489, U_ 490, U_ 491, U_ 492, U_ 493, U_ 494, U_ 495]) (fun U_ wr => ∃ k : Nat, k ≤ n ∧ U_ 15 = .int .i64 k ∧ U_ 12 = .int .i64 (sumBy (incR d U) (l.drop k)) ∧ U_ 14 = .int .i64 ((allTo l k).length : Nat) ∧ Below w5.heap.size w5 wr) (fun U_ => n - (intOf (U_ 15)).toNat) (by kernel_rfl) ⟨0, Nat.zero_le _, rfl, rfl, rfl, Below.refl _ _⟩ ?_
                intro U_ wr mm_ hrel hm_
                dsimp only
                as_aux_lemma =>
                  · obtain ⟨k, hk, e15, e12, e14, hb⟩ := hrel
                    have hm1_ : n - (intOf (U_ 15)).toNat = mm_ := hm_.out
                    rw [e15] at hm1_
                    have HM_ : Hid (n - k = mm_) := Lib.hid hm1_
                    clear hm_ hm1_
                    rw [e15, e12, e14]
                    clear e15 e12 e14
                    by_cases hlt : k < n
                    · skip
                      as_aux_lemma =>
                        obtain ⟨b, off, rfl, hcs⟩ := HR.out.2 (by omega)
                        obtain ⟨x, hx⟩ : ∃ x, l[k]? = some x := ⟨_, List.getElem?_eq_getElem (by have := HL.out; omega)⟩
                        have hcr := range_below (B := 0) (hcs k x hx) hb
                        have hc0 := hcr 0 _ rfl
                        have hc1 := hcr 1 _ rfl
                        have hc2 := hcr 2 _ rfl
                        have hc3 := hcr 3 _ rfl
                        have hc4 := hcr 4 _ rfl
                        simp only [rentalE, Nat.add_zero] at hc0 hc1 hc2 hc3 hc4
                        have HM := Lib.hid (mem_of_get hx)
                        have HOK := Lib.hid (HO.out.ok x HM.out)
                        have HSZ := Lib.hid (HO.out.sz x HM.out)
                        have HRB := Lib.hid (HS.out x HM.out)
                        have HX := Lib.hid hx
                        have HCS := Lib.hid hcs
                        have HIN := Lib.hid (sumBy_drop (f := incR (d : Int) U) hx)
                        have hi2 := sumBy_abs (f := incR (d : Int) U) (M := 58800) (l := l.drop (k + 1)) (fun y hy => (HS.out y (List.mem_of_mem_drop hy)).inc d U)
                        have hi3 : (l.drop (k + 1)).length ≤ 5 := by rw [List.length_drop, HL.out]; omega
                        have hi4 : -300000 ≤ sumBy (incR (d : Int) U) (l.drop (k + 1)) ∧ sumBy (incR (d : Int) U) (l.drop (k + 1)) ≤ 300000 := by omega
                        have HAT := Lib.hid (allTo_succ hx)
                        clear hcr hx hcs hi2 hi3
                        obtain ⟨I2, hI2⟩ : ∃ I, sumBy (incR (d : Int) U) (l.drop (k + 1)) = I := ⟨_, rfl⟩
                        rw [hI2] at HIN hi4
                        have HI2 := Lib.hid hI2
                        obtain ⟨INC, hINC⟩ : ∃ I, sumBy (incR (d : Int) U) (l.drop k) = I := ⟨_, rfl⟩
                        rw [hINC] at HIN ⊢
                        have KD : Hid (∀ (W : World) (t : Int), 0 ≤ t → t ≤ 100000 → Calls Tryz.prog 12 #[.agg #[.string x.fId, .string x.fItem, .int .i64 x.fDay, .int .i64 x.fMonths, .int .i64 x.fFee], .int .i64 t] W fun e w' => e = .returned (.tuple #[.int .i64 (dueR x t), .int .i64 0]) ∧ Below W.heap.size W w') := Lib.hid fun W t h0 h1 => i_DueBy x t W HOK.out HSZ.out HRB.out h0 h1
                        have K4 : Hid (∀ W, LibW W → Calls Tryz.prog 15 #[.agg #[.string x.fId, .string x.fItem, .int .i64 x.fDay, .int .i64 x.fMonths, .int .i64 x.fFee]] W fun e w' => e = .returned (.string (rentalText x)) ∧ Below W.heap.size W w') := Lib.hid fun W h => i_RentalText x W (by have := rental_name_size (okRental_names _ _ _ _ _ HOK.out).1; omega) (by have := rental_name_size (okRental_names _ _ _ _ _ HOK.out).2; omega) h
                        have K5 : Hid (∀ W, LibW W → Calls Tryz.prog 14 #[.string (rentalText x)] W fun e w' => e = .returned (.tuple #[.agg #[.string x.fId, .string x.fItem, .int .i64 x.fDay, .int .i64 x.fMonths, .int .i64 x.fFee], .bool true]) ∧ Below W.heap.size W w') := Lib.hid fun W h => (I_ReadRental (rentalText x) W (by have := rental_text_le HOK.out; omega) h).mono (by
                          rintro e w' ⟨y, hy, rfl, hb⟩
                          have h1 : rentalV (rentalText x) = x := by unfold rentalV; rw [rental_back HOK.out]; rfl
                          have h2 : rentalOk (rentalText x) = true := by unfold rentalOk; rw [rental_back HOK.out]; rfl
                          have hyx : y = x := hy.out.trans h1
                          subst hyx
                          exact ⟨by rw [h2], hb⟩)
                        obtain ⟨TX, hTX⟩ : ∃ TX, rentalText x = TX := ⟨_, rfl⟩
                        rw [hTX] at K4 K5
                        have hED := HRB.out.end_
                        have HED : Hid (x.fDay + 30 * x.fMonths = endR x) := Lib.hid rfl
                        have K1 : Hid (∀ W, Calls Tryz.prog 11 #[.agg #[.string x.fId, .string x.fItem, .int .i64 x.fDay, .int .i64 x.fMonths, .int .i64 x.fFee]] W fun e w' => e = .returned (.tuple #[.int .i64 (endR x), .int .i64 0]) ∧ Below W.heap.size W w') := Lib.hid fun W => i_EndOf x W HOK.out HSZ.out HRB.out
                        obtain ⟨E, hE⟩ : ∃ E, endR x = E := ⟨_, rfl⟩
                        rw [hE] at K1 hED HED
                        have HEE := Lib.hid hE
                        have hE0 : 0 ≤ E := by have := HRB.out.d0; omega
                        have hE1 : E ≤ 1250 := hED.2
                        clear hE hTX hED hI2 hINC
                        have hcx := range_new wr #[.string x.fId, .string x.fItem, .int .i64 x.fDay, .int .i64 x.fMonths, .int .i64 x.fFee] 37
                        have hb0 : Below w5.heap.size w5 (wr.alloc (.cells #[.string x.fId, .string x.fItem, .int .i64 x.fDay, .int .i64 x.fMonths, .int .i64 x.fFee] 37)) := hb.alloc hb.size _
                        obtain ⟨W0, hW0⟩ : ∃ W0, wr.alloc (.cells #[.string x.fId, .string x.fItem, .int .i64 x.fDay, .int .i64 x.fMonths, .int .i64 x.fFee] 37) = W0 := ⟨_, rfl⟩
                        rw [hW0] at hb0 hcx
                        have hx0 := hcx 0 _ rfl
                        have hx1 := hcx 1 _ rfl
                        have hx2 := hcx 2 _ rfl
                        have hx3 := hcx 3 _ rfl
                        have hx4 := hcx 4 _ rfl
                        simp only [Nat.zero_add] at hx0 hx1 hx2 hx3 hx4
                        clear hcx
                        go_wp2_with fail
                        try rw [hW0]
                        clear hW0
                        obtain ⟨bx, hbx⟩ : ∃ bx, wr.heap.size = bx := ⟨_, rfl⟩
                        rw [hbx] at hx0 hx1 hx2 hx3 hx4 ⊢
                        clear hbx hb
                        refine (K1.out _).mono ?_
                        rintro e w6 ⟨rfl, hb6⟩
                        replace hx0 := cell_later hb6 hx0
                        replace hx1 := cell_later hb6 hx1
                        replace hx2 := cell_later hb6 hx2
                        replace hx3 := cell_later hb6 hx3
                        replace hx4 := cell_later hb6 hx4
                        replace hb0 := hb0.trans (hb6.mono hb0.size)
                        clear hb6 K1 hc0 hc1 hc2 hc3 hc4
                        as_aux_lemma =>
                          go_wp2_with fail
                          refine (KD.out _ U (by omega) (by omega)).mono ?_
                          rintro e w7 ⟨rfl, hb7⟩
                          replace hx0 := cell_later hb7 hx0
                          replace hx1 := cell_later hb7 hx1
                          replace hx2 := cell_later hb7 hx2
                          replace hx3 := cell_later hb7 hx3
                          replace hx4 := cell_later hb7 hx4
                          replace hb0 := hb0.trans (hb7.mono hb0.size)
                          clear hb7
                          have hDU := HRB.out.due U
                          obtain ⟨DU, hDUe⟩ : ∃ q, dueR x U = q := ⟨_, rfl⟩
                          rw [hDUe] at hDU ⊢
                          have HDU := Lib.hid hDUe
                          clear hDUe
                          as_aux_lemma =>
                            go_upto_if 115 with fail
                            as_aux_lemma =>
                              go_cut [21, 22, 23] (fun s21 s22 s23 wx => s21 = .int .i64 (dueR x ((d : Int) - 1)) ∧ Below w5.heap.size w5 wx ∧ Hid (wx.cell? ⟨bx, 0, none⟩ = some (.string x.fId) ∧ wx.cell? ⟨bx, 1, none⟩ = some (.string x.fItem) ∧ wx.cell? ⟨bx, 2, none⟩ = some (.int .i64 x.fDay) ∧ wx.cell? ⟨bx, 3, none⟩ = some (.int .i64 x.fMonths) ∧ wx.cell? ⟨bx, 4, none⟩ = some (.int .i64 x.fFee)))
                              case first =>
                                by_cases hd0 : 0 < d
                                · skip
                                  as_aux_lemma =>
                                    have J := fun W => s_DueBy x ((d : Int) - 1) W HOK.out HSZ.out HRB.out (by omega) (by omega)
                                    go_wp2_with fail
                                    refine (J _).mono ?_
                                    rintro e w8 ⟨rfl, hb8⟩
                                    replace hx0 := cell_later hb8 hx0
                                    replace hx1 := cell_later hb8 hx1
                                    replace hx2 := cell_later hb8 hx2
                                    replace hx3 := cell_later hb8 hx3
                                    replace hx4 := cell_later hb8 hx4
                                    replace hb0 := hb0.trans (hb8.mono hb0.size)
                                    clear hb8 J
                                    go_wp2
                                    go_meet
                                    case rel => exact ⟨rfl, hb0, Lib.hid ⟨hx0, hx1, hx2, hx3, hx4⟩⟩
                                · skip
                                  as_aux_lemma =>
                                    have hdn : dueR x ((d : Int) - 1) = 0 := HRB.out.due_none (by omega)
                                    go_wp2
                                    go_meet
                                    case rel => exact ⟨by rw [hdn], hb0, Lib.hid ⟨hx0, hx1, hx2, hx3, hx4⟩⟩
                              case rest =>
                                obtain ⟨rfl, hbc, HXc⟩ := hcut
                                clear hb0 hx0 hx1 hx2 hx3 hx4
                                have hb0 := hbc
                                obtain ⟨hx0, hx1, hx2, hx3, hx4⟩ := HXc.out
                                clear hbc HXc
                                as_aux_lemma =>
                                  have hBF := HRB.out.due ((d : Int) - 1)
                                  have HIN2 : Hid (INC - (DU - dueR x ((d : Int) - 1)) = I2) := Lib.hid (by have h1 := HIN.out; have h2 := HDU.out; unfold incR at h1; omega)
                                  obtain ⟨BF, hBFe⟩ : ∃ q, dueR x ((d : Int) - 1) = q := ⟨_, rfl⟩
                                  rw [hBFe] at hBF HIN2 ⊢
                                  clear hBFe HIN
                                  as_aux_lemma =>
                                    have qE1 : IntKind.i64.wrap (30 * x.fMonths) = 30 * x.fMonths := wid (by have := HRB.out.m0; have := HRB.out.m1; omega)
                                    have qE2 : IntKind.i64.wrap (x.fDay + 30 * x.fMonths) = E := by rw [HED.out]; exact wid (by omega)
                                    go_wp2_with fail
                                    clear qE1 qE2
                                    refine (KD.out _ E (by omega) (by omega)).mono ?_
                                    rintro e w8 ⟨rfl, hb8⟩
                                    replace hx0 := cell_later hb8 hx0
                                    replace hx1 := cell_later hb8 hx1
                                    replace hx2 := cell_later hb8 hx2
                                    replace hx3 := cell_later hb8 hx3
                                    replace hx4 := cell_later hb8 hx4
                                    replace hb0 := hb0.trans (hb8.mono hb0.size)
                                    clear hb8
                                    have hFM1 : dueR x E = x.fFee * x.fMonths := by rw [← HED.out]; exact HRB.out.due_end
                                    have hFM2 := mul_rangeR HRB.out.f0 HRB.out.f1 (show 0 ≤ x.fMonths by have := HRB.out.m0; omega) HRB.out.m1
                                    obtain ⟨FM, hFM⟩ : ∃ q, x.fFee * x.fMonths = q := ⟨_, rfl⟩
                                    rw [hFM1, hFM]
                                    rw [hFM] at hFM2
                                    have HFM := Lib.hid hFM
                                    clear hFM1 hFM
                                    as_aux_lemma =>
                                      go_wp2_with fail
                                      refine (KD.out _ x.fDay HRB.out.d0 (by have := HRB.out.d1; omega)).mono ?_
                                      rintro e w9 ⟨rfl, hb9⟩
                                      replace hx0 := cell_later hb9 hx0
                                      replace hx1 := cell_later hb9 hx1
                                      replace hx2 := cell_later hb9 hx2
                                      replace hx3 := cell_later hb9 hx3
                                      replace hx4 := cell_later hb9 hx4
                                      replace hb0 := hb0.trans (hb9.mono hb0.size)
                                      clear hb9 KD
                                      rw [HRB.out.due_first]
                                      have HXi : Hid (w9.cell? ⟨bx, 0, none⟩ = some (.string x.fId) ∧ w9.cell? ⟨bx, 1, none⟩ = some (.string x.fItem) ∧ w9.cell? ⟨bx, 2, none⟩ = some (.int .i64 x.fDay) ∧ w9.cell? ⟨bx, 3, none⟩ = some (.int .i64 x.fMonths) ∧ w9.cell? ⟨bx, 4, none⟩ = some (.int .i64 x.fFee)) := Lib.hid ⟨hx0, hx1, hx2, hx3, hx4⟩
                                      have HB9 := Lib.hid hb0
                                      clear hx0 hx1 hx2 hx3 hx4 hb0
                                      as_aux_lemma =>
                                        go_wp2_with fail
                                        go_loopw [28, 29] (fun v i wr => ∃ t : Nat, t ≤ nA ∧ i = .int .i64 t ∧ v = .bool (((actIds d l).take t).any fun s => s.toList == x.fId.toList) ∧ Below w9.heap.size w9 wr) (fun _ i _ => nA - (intOf i).toNat)
                                        case atStart => exact ⟨0, Nat.zero_le _, rfl, rfl, Below.refl _ _⟩
                                        case round =>
                                          obtain ⟨t, ht, rfl, rfl, hbi⟩ := hrel
                                          obtain ⟨ha0, ha1, ha2, ha3, ha4⟩ := HXi.out
                                          have hx0 := cell_later hbi ha0
                                          have hx1 := cell_later hbi ha1
                                          have hx2 := cell_later hbi ha2
                                          have hx3 := cell_later hbi ha3
                                          have hx4 := cell_later hbi ha4
                                          clear ha0 ha1 ha2 ha3 ha4
                                          have hb0 := HB9.out.trans (hbi.mono HB9.out.size)
                                          by_cases htn : t < nA
                                          · skip
                                            as_aux_lemma =>
                                              obtain ⟨bn, on, s, rfl, hs, hcn⟩ := HRA.out.get htn
                                              have hs0 := range_below (B := 0) hcn hb0 0 (.string s) rfl
                                              simp only [strE, Nat.mul_one, Nat.add_zero] at hs0
                                              have HS2 : Hid ((((actIds d l).take (t + 1)).any fun s => s.toList == x.fId.toList) = ((((actIds d l).take t).any fun s => s.toList == x.fId.toList) || (s.toList == x.fId.toList))) := Lib.hid (by rw [take_of_get hs, List.any_append]; simp)
                                              clear hcn hs
                                              rcases hfv : ((actIds d l).take t).any (fun s => s.toList == x.fId.toList) with _ | _
                                              · rw [hfv, Bool.false_or] at HS2
                                                clear hfv
                                                go_wp2_with fail
                                                go_quiet (fail)
                                                go_wp2
                                                first | (refine ⟨⟨t + 1, by omega, by go_num, by rw [HS2.out], below_drewN hbi _⟩, ?_⟩; (simp [intOf]; omega)) | (go_roundw; (case rel => first | exact ⟨t + 1, by omega, by go_num, by rw [HS2.out], below_drewN hbi _⟩ | ((try refine ⟨trivial, ?_⟩); (repeat apply Exists.intro); exact ⟨⟨t + 1, by omega, by go_num, by rw [HS2.out], below_drewN hbi _⟩, rfl⟩)); (case measure => (simp [intOf]; omega)))
                                              · rw [hfv, Bool.true_or] at HS2
                                                clear hfv
                                                go_wp2_with fail
                                                go_quiet (fail)
                                                go_wp2
                                                first | (refine ⟨⟨t + 1, by omega, by go_num, by rw [HS2.out], below_drewN hbi _⟩, ?_⟩; (simp [intOf]; omega)) | (go_roundw; (case rel => first | exact ⟨t + 1, by omega, by go_num, by rw [HS2.out], below_drewN hbi _⟩ | ((try refine ⟨trivial, ?_⟩); (repeat apply Exists.intro); exact ⟨⟨t + 1, by omega, by go_num, by rw [HS2.out], below_drewN hbi _⟩, rfl⟩)); (case measure => (simp [intOf]; omega)))
                                          · skip
                                            as_aux_lemma =>
                                              obtain rfl : nA = t := by omega
                                              have E1 : (((actIds d l).take nA).any fun s => s.toList == x.fId.toList) = actR d x := by rw [List.take_of_length_le (by rw [HLA.out]; exact Nat.le_refl _)]; exact act_found HO.out d HM.out
                                              rw [E1]
                                              obtain ⟨av, hav⟩ : ∃ av, actR (d : Int) x = av := ⟨_, rfl⟩
                                              rw [hav]
                                              have HAV := Lib.hid hav
                                              clear E1 htn ht hbi HXi HB9 hav
                                              as_aux_lemma =>
                                                go_wp2_with fail
                                                refine (K4.out _ (hL.below (HB.out.trans (hb0.mono HB.out.size)))).mono ?_
                                                rintro e w10 ⟨rfl, hb10⟩
                                                replace hx0 := cell_later hb10 hx0
                                                replace hx1 := cell_later hb10 hx1
                                                replace hx2 := cell_later hb10 hx2
                                                replace hx3 := cell_later hb10 hx3
                                                replace hx4 := cell_later hb10 hx4
                                                replace hb0 := hb0.trans (hb10.mono hb0.size)
                                                clear hb10 K4
                                                as_aux_lemma =>
                                                  go_wp2_with fail
                                                  refine (K5.out _ (hL.below (HB.out.trans (hb0.mono HB.out.size)))).mono ?_
                                                  rintro e w11 ⟨rfl, hb11⟩
                                                  replace hx0 := cell_later hb11 hx0
                                                  replace hx1 := cell_later hb11 hx1
                                                  replace hx2 := cell_later hb11 hx2
                                                  replace hx3 := cell_later hb11 hx3
                                                  replace hx4 := cell_later hb11 hx4
                                                  replace hb0 := hb0.trans (hb11.mono hb0.size)
                                                  clear hb11 K5
                                                  as_aux_lemma =>
                                                    have hne := fun W => run_neq_Rental x x W
                                                    have hxx : x.eqv x = true := (DRental.eqv_iff x x).2 rfl
                                                    rw [hxx] at hne
                                                    have hcy := range_new w11 #[.string x.fId, .string x.fItem, .int .i64 x.fDay, .int .i64 x.fMonths, .int .i64 x.fFee] 37
                                                    have hby : Below w11.heap.size w11 (w11.alloc (.cells #[.string x.fId, .string x.fItem, .int .i64 x.fDay, .int .i64 x.fMonths, .int .i64 x.fFee] 37)) := (Below.refl _ _).alloc (Nat.le_refl _) _
                                                    go_upto_region 32 with fail
                                                    obtain ⟨W12, hW12⟩ : ∃ W12, w11.alloc (.cells #[.string x.fId, .string x.fItem, .int .i64 x.fDay, .int .i64 x.fMonths, .int .i64 x.fFee] 37) = W12 := ⟨_, rfl⟩
                                                    rw [hW12] at hcy hby
                                                    rw [hW12]
                                                    clear hW12
                                                    replace hx0 := cell_later hby hx0
                                                    replace hx1 := cell_later hby hx1
                                                    replace hx2 := cell_later hby hx2
                                                    replace hx3 := cell_later hby hx3
                                                    replace hx4 := cell_later hby hx4
                                                    replace hb0 := hb0.trans (hby.mono hb0.size)
                                                    have hy0 := hcy 0 _ rfl
                                                    have hy1 := hcy 1 _ rfl
                                                    have hy2 := hcy 2 _ rfl
                                                    have hy3 := hcy 3 _ rfl
                                                    have hy4 := hcy 4 _ rfl
                                                    simp only [Nat.zero_add] at hy0 hy1 hy2 hy3 hy4
                                                    clear hcy hby
                                                    as_aux_lemma =>
                                                      go_cut [226] (fun s226 wx => s226 = .bool false ∧ wx = W12)
                                                      case first =>
                                                        have qE1 : IntKind.i64.wrap (30 * x.fMonths) = 30 * x.fMonths := wid (by have := HRB.out.m0; have := HRB.out.m1; omega)
                                                        have qE2 : IntKind.i64.wrap (x.fDay + 30 * x.fMonths) = E := by rw [HED.out]; exact wid (by omega)
                                                        have qF : IntKind.i64.wrap (x.fFee * x.fMonths) = FM := by rw [HFM.out]; exact wid (by omega)
                                                        have t1 : (E != E) = false := by simp
                                                        have t2 : (FM != FM) = false := by simp
                                                        have t3 : (x.fFee != x.fFee) = false := by simp
                                                        have hae := actR_eq d x
                                                        rw [HEE.out, HAV.out] at hae
                                                        clear hFM2 hDU hBF hi4
                                                        by_cases h1 : x.fDay ≤ (d : Int)
                                                        · by_cases h2 : (d : Int) < E
                                                          · skip
                                                            as_aux_lemma =>
                                                              have e1 := decide_eq_true h1
                                                              have e2 := decide_eq_true h2
                                                              rw [e1, e2, Bool.and_self] at hae
                                                              subst hae
                                                              go_wp2
                                                              go_meet
                                                              case rel => exact ⟨rfl, rfl⟩
                                                          · skip
                                                            as_aux_lemma =>
                                                              have e1 := decide_eq_true h1
                                                              have e2 := decide_eq_false h2
                                                              rw [e1, e2, Bool.and_false] at hae
                                                              subst hae
                                                              go_wp2
                                                              go_meet
                                                              case rel => exact ⟨rfl, rfl⟩
                                                        · skip
                                                          as_aux_lemma =>
                                                            have e1 := decide_eq_false h1
                                                            rw [e1, Bool.false_and] at hae
                                                            subst hae
                                                            go_wp2
                                                            go_meet
                                                            case rel => exact ⟨rfl, rfl⟩
                                                      case rest =>
                                                        obtain ⟨rfl, rfl⟩ := hcut
                                                        as_aux_lemma =>
                                                          clear hne hxx hy0 hy1 hy2 hy3 hy4
                                                          have q1 : IntKind.i64.wrap (DU - BF) = DU - BF := wid (by omega)
                                                          have q2 : IntKind.i64.wrap (INC - (DU - BF)) = I2 := by rw [HIN2.out]; exact wid (by omega)
                                                          have HX12 : Hid (wc.cell? ⟨bx, 0, none⟩ = some (.string x.fId) ∧ wc.cell? ⟨bx, 1, none⟩ = some (.string x.fItem) ∧ wc.cell? ⟨bx, 2, none⟩ = some (.int .i64 x.fDay) ∧ wc.cell? ⟨bx, 3, none⟩ = some (.int .i64 x.fMonths) ∧ wc.cell? ⟨bx, 4, none⟩ = some (.int .i64 x.fFee)) := Lib.hid ⟨hx0, hx1, hx2, hx3, hx4⟩
                                                          have HB12 := Lib.hid hb0
                                                          clear hx0 hx1 hx2 hx3 hx4 hb0 hFM2 hBF
                                                          go_wp2_with fail
                                                          clear q1 q2
                                                          go_loopw [14, 32] (fun p i wr => ∃ t : Nat, k < t ∧ t ≤ n ∧ i = .int .i64 t ∧ p = .int .i64 ((allTo l k ++ rowTo l x k t).length : Nat) ∧ Below wc.heap.size wc wr) (fun _ i _ => n - (intOf i).toNat)
                                                          case atStart => exact ⟨k + 1, by omega, by omega, by go_num, by rw [rowTo_low (k + 1) (Nat.le_refl _), List.append_nil], Below.refl _ _⟩
                                                          case round =>
                                                            obtain ⟨t, hkt, ht, rfl, rfl, hbi⟩ := hrel
                                                            obtain ⟨ha0, ha1, ha2, ha3, ha4⟩ := HX12.out
                                                            have hx0 := cell_later hbi ha0
                                                            have hx1 := cell_later hbi ha1
                                                            have hx2 := cell_later hbi ha2
                                                            have hx3 := cell_later hbi ha3
                                                            have hx4 := cell_later hbi ha4
                                                            clear ha0 ha1 ha2 ha3 ha4
                                                            have hb0 := HB12.out.trans (hbi.mono HB12.out.size)
                                                            by_cases htn : t < n
                                                            · skip
                                                              as_aux_lemma =>
                                                                obtain ⟨y, hy⟩ : ∃ y, l[t]? = some y := ⟨_, List.getElem?_eq_getElem (by have := HL.out; omega)⟩
                                                                have hcr := range_below (B := 0) (HCS.out t y hy) hb0
                                                                have hc0 := hcr 0 _ rfl
                                                                have hc1 := hcr 1 _ rfl
                                                                have hc2 := hcr 2 _ rfl
                                                                have hc3 := hcr 3 _ rfl
                                                                have hc4 := hcr 4 _ rfl
                                                                simp only [rentalE, Nat.add_zero] at hc0 hc1 hc2 hc3 hc4
                                                                have HT := Lib.hid (rowTo_succ (x := x) hy hkt)
                                                                have HPA : Hid (clashR x y = true → (allTo l l.length)[(allTo l k ++ rowTo l x k t).length]? = some [(k : Int), (t : Int)]) := Lib.hid fun h => pair_at HX.out hy hkt h
                                                                have hrb := HS.out y (mem_of_get hy)
                                                                have HCL : Hid (clashR x y = ((x.fItem.toList == y.fItem.toList) && (decide (x.fDay < y.fDay + 30 * y.fMonths) && decide (y.fDay < E)))) := Lib.hid (by unfold clashR; rw [clash_days HRB.out.end_.1 hrb.end_.1, HEE.out]; rfl)
                                                                have qd0 := hrb.d0; have qd1 := hrb.d1; have qm0 := hrb.m0; have qm1 := hrb.m1
                                                                clear hcr hy hrb
                                                                have hcy := range_new wr #[.string y.fId, .string y.fItem, .int .i64 y.fDay, .int .i64 y.fMonths, .int .i64 y.fFee] 37
                                                                have hba : Below wr.heap.size wr (wr.alloc (.cells #[.string y.fId, .string y.fItem, .int .i64 y.fDay, .int .i64 y.fMonths, .int .i64 y.fFee] 37)) := (Below.refl _ _).alloc (Nat.le_refl _) _
                                                                obtain ⟨W0, hW0⟩ : ∃ W0, wr.alloc (.cells #[.string y.fId, .string y.fItem, .int .i64 y.fDay, .int .i64 y.fMonths, .int .i64 y.fFee] 37) = W0 := ⟨_, rfl⟩
                                                                rw [hW0] at hcy hba
                                                                have hy0 := hcy 0 _ rfl
                                                                have hy1 := hcy 1 _ rfl
                                                                have hy2 := hcy 2 _ rfl
                                                                have hy3 := hcy 3 _ rfl
                                                                have hy4 := hcy 4 _ rfl
                                                                simp only [Nat.zero_add] at hy0 hy1 hy2 hy3 hy4
                                                                replace hx0 := cell_later hba hx0
                                                                replace hx1 := cell_later hba hx1
                                                                replace hx2 := cell_later hba hx2
                                                                replace hx3 := cell_later hba hx3
                                                                replace hx4 := cell_later hba hx4
                                                                replace hb0 := hb0.trans (hba.mono hb0.size)
                                                                replace hbi := hbi.trans (hba.mono hbi.size)
                                                                obtain ⟨P, hP⟩ : ∃ P, (allTo l k ++ rowTo l x k t).length = P := ⟨_, rfl⟩
                                                                have HP2 : Hid ((allTo l k ++ rowTo l x k (t + 1)).length = P + if clashR x y then 1 else 0) := Lib.hid (by
                                                                  rw [HT.out, ← List.append_assoc, List.length_append, hP]
                                                                  split <;> rfl)
                                                                rw [hP] at HPA ⊢
                                                                clear hcy hba hP HT
                                                                go_upto_region 39 with fail
                                                                try rw [hW0]
                                                                clear hW0 hc0 hc1 hc2 hc3 hc4
                                                                obtain ⟨by_, hby⟩ : ∃ b, wr.heap.size = b := ⟨_, rfl⟩
                                                                rw [hby] at hy0 hy1 hy2 hy3 hy4 ⊢
                                                                clear hby
                                                                have qy1 : IntKind.i64.wrap (30 * y.fMonths) = 30 * y.fMonths := wid (by omega)
                                                                have qy2 : IntKind.i64.wrap (y.fDay + 30 * y.fMonths) = y.fDay + 30 * y.fMonths := wid (by omega)
                                                                as_aux_lemma =>
                                                                  rcases hit : x.fItem.toList == y.fItem.toList with _ | _
                                                                  · have hn : clashR x y = false := by rw [HCL.out, hit]; rfl
                                                                    have hne2 : ¬ x.fItem.toList = y.fItem.toList := fun h => by rw [h, beq_self_eq_true] at hit; cases hit
                                                                    clear hit
                                                                    have HP3 : Hid ((allTo l k ++ rowTo l x k (t + 1)).length = P) := Lib.hid (by rw [HP2.out, hn]; rfl)
                                                                    clear hn
                                                                    go_wp2
                                                                    first | (refine ⟨⟨t + 1, by omega, by omega, by go_num, by rw [HP3.out], hbi⟩, ?_⟩; (simp [intOf]; omega)) | (go_roundw; (case rel => first | exact ⟨t + 1, by omega, by omega, by go_num, by rw [HP3.out], hbi⟩ | ((try refine ⟨trivial, ?_⟩); (repeat apply Exists.intro); exact ⟨⟨t + 1, by omega, by omega, by go_num, by rw [HP3.out], hbi⟩, rfl⟩)); (case measure => (simp [intOf]; omega)))
                                                                  · have heq2 : x.fItem.toList = y.fItem.toList := eq_of_beq hit
                                                                    rw [hit, Bool.true_and] at HCL
                                                                    clear hit
                                                                    by_cases h1 : x.fDay < y.fDay + 30 * y.fMonths
                                                                    · by_cases h2 : y.fDay < E
                                                                      · skip
                                                                        as_aux_lemma =>
                                                                          have e1 := decide_eq_true h1
                                                                          have e2 := decide_eq_true h2
                                                                          have hn : clashR x y = true := by rw [HCL.out, e1, e2]; rfl
                                                                          have HP3 : Hid ((allTo l k ++ rowTo l x k (t + 1)).length = P + 1) := Lib.hid (by rw [HP2.out, hn]; rfl)
                                                                          have hpa := HPA.out hn
                                                                          have hPz : P < z := by have := (List.getElem?_eq_some_iff.1 hpa).1; rw [HLZ.out] at this; exact this
                                                                          obtain ⟨bC, oC, p, rfl, hps, hcp⟩ := HRC.out.get hPz
                                                                          have hp0 := range_below (B := 0) hcp hb0 0 (.slice p.A p.n p.c) rfl
                                                                          simp only [slIE, Nat.mul_one, Nat.add_zero] at hp0
                                                                          obtain ⟨hrp, hp2⟩ := HRW.out.rd hps hpa
                                                                          obtain ⟨pA, pn, pc⟩ := p
                                                                          replace hp2 : pn = 2 := hp2
                                                                          subst hp2
                                                                          replace hrp : Rd intE W0 pA 2 [(k : Int), (t : Int)] := Rd.below hrp hb0
                                                                          have e3 : ¬ (z : Int) ≤ (P : Int) := by omega
                                                                          have e4 := decide_eq_false e3
                                                                          have hal : Below W0.heap.size W0 (W0.alloc (.cells #[.int .i64 (k : Int), .int .i64 (t : Int)] 2)) := (Below.refl _ _).alloc (Nat.le_refl _) _
                                                                          have hS := l_r8Same_yes pA (some ⟨W0.heap.size, 0, none⟩) 2 pc 2 [(k : Int), (t : Int)] _ (hrp.below hal) (Rd.lit1 intE rfl rfl rfl) (by omega)
                                                                          clear hpa hps hcp hrp hn
                                                                          go_wp2_with fail
                                                                          refine hS.mono ?_
                                                                          clear hS
                                                                          rintro e w13 ⟨rfl, hb13⟩
                                                                          replace hbi := hbi.trans ((hal.trans (hb13.mono hal.size)).mono hbi.size)
                                                                          clear hal hb13 e1 e2 e3 e4
                                                                          go_wp2
                                                                          first | (refine ⟨⟨t + 1, by omega, by omega, by go_num, by rw [HP3.out]; push_cast; rfl, hbi⟩, ?_⟩; (simp [intOf]; omega)) | (go_roundw; (case rel => first | exact ⟨t + 1, by omega, by omega, by go_num, by rw [HP3.out]; push_cast; rfl, hbi⟩ | ((try refine ⟨trivial, ?_⟩); (repeat apply Exists.intro); exact ⟨⟨t + 1, by omega, by omega, by go_num, by rw [HP3.out]; push_cast; rfl, hbi⟩, rfl⟩)); (case measure => (simp [intOf]; omega)))
                                                                      · have e2 := decide_eq_false h2
                                                                        have hn : clashR x y = false := by rw [HCL.out, e2, Bool.and_false]
                                                                        have HP3 : Hid ((allTo l k ++ rowTo l x k (t + 1)).length = P) := Lib.hid (by rw [HP2.out, hn]; rfl)
                                                                        have e1 := decide_eq_true h1
                                                                        clear hn
                                                                        go_wp2
                                                                        first | (refine ⟨⟨t + 1, by omega, by omega, by go_num, by rw [HP3.out], hbi⟩, ?_⟩; (simp [intOf]; omega)) | (go_roundw; (case rel => first | exact ⟨t + 1, by omega, by omega, by go_num, by rw [HP3.out], hbi⟩ | ((try refine ⟨trivial, ?_⟩); (repeat apply Exists.intro); exact ⟨⟨t + 1, by omega, by omega, by go_num, by rw [HP3.out], hbi⟩, rfl⟩)); (case measure => (simp [intOf]; omega)))
                                                                    · have e1 := decide_eq_false h1
                                                                      have hn : clashR x y = false := by rw [HCL.out, e1, Bool.false_and]
                                                                      have HP3 : Hid ((allTo l k ++ rowTo l x k (t + 1)).length = P) := Lib.hid (by rw [HP2.out, hn]; rfl)
                                                                      clear hn
                                                                      go_wp2
                                                                      first | (refine ⟨⟨t + 1, by omega, by omega, by go_num, by rw [HP3.out], hbi⟩, ?_⟩; (simp [intOf]; omega)) | (go_roundw; (case rel => first | exact ⟨t + 1, by omega, by omega, by go_num, by rw [HP3.out], hbi⟩ | ((try refine ⟨trivial, ?_⟩); (repeat apply Exists.intro); exact ⟨⟨t + 1, by omega, by omega, by go_num, by rw [HP3.out], hbi⟩, rfl⟩)); (case measure => (simp [intOf]; omega)))
                                                            · skip
                                                              as_aux_lemma =>
                                                                obtain rfl : n = t := by omega
                                                                have HAE : allTo l k ++ rowTo l x k n = allTo l (k + 1) := by rw [HAT.out, HL.out]
                                                                rw [HAE]
                                                                clear HAE htn ht hkt hbi HX12 HB12
                                                                have hEx := i_Extend _ n c l k x wr (HR.out.below hb0) HO.out HS.out HX.out
                                                                as_aux_lemma =>
                                                                  go_wp2_with fail
                                                                  refine hEx.mono ?_
                                                                  rintro e w14 hch
                                                                  obtain ⟨v, a, hE, rfl, hb14⟩ := hch.one
                                                                  clear hch hEx
                                                                  replace hx0 := cell_later hb14 hx0
                                                                  replace hx1 := cell_later hb14 hx1
                                                                  replace hx2 := cell_later hb14 hx2
                                                                  replace hx3 := cell_later hb14 hx3
                                                                  replace hx4 := cell_later hb14 hx4
                                                                  replace hb0 := hb0.trans (hb14.mono hb0.size)
                                                                  clear hb14
                                                                  have HEX := Lib.hid hE
                                                                  clear hE
                                                                  as_aux_lemma =>
                                                                    go_upto_region 44 with fail
                                                                    as_aux_lemma =>
                                                                      go_cut [317] (fun s317 wx => s317 = .bool false ∧ Below w5.heap.size w5 wx ∧ Hid (wx.cell? ⟨bx, 0, none⟩ = some (.string x.fId) ∧ wx.cell? ⟨bx, 1, none⟩ = some (.string x.fItem) ∧ wx.cell? ⟨bx, 2, none⟩ = some (.int .i64 x.fDay) ∧ wx.cell? ⟨bx, 3, none⟩ = some (.int .i64 x.fMonths) ∧ wx.cell? ⟨bx, 4, none⟩ = some (.int .i64 x.fFee)))
                                                                      case first =>
                                                                        rcases HEX.out with ⟨g, rfl, rfl, hg⟩ | ⟨rfl, rfl⟩
                                                                        · skip
                                                                          as_aux_lemma =>
                                                                            have u1 : ((n : Int) != (n : Int)) = false := by simp
                                                                            have u2 : IntKind.i64.wrap (x.fMonths + 1) = x.fMonths + 1 := wid (by have := HRB.out.m0; have := HRB.out.m1; omega)
                                                                            have u3 : (x.fMonths + 1 != x.fMonths + 1) = false := by simp
                                                                            clear HEX
                                                                            go_quiet (fail)
                                                                            go_wp2
                                                                            go_meet
                                                                            case rel => exact ⟨rfl, below_drewN hb0 _, Lib.hid ⟨hx0, hx1, hx2, hx3, hx4⟩⟩
                                                                        · skip
                                                                          as_aux_lemma =>
                                                                            clear HEX
                                                                            go_quiet (fail)
                                                                            go_wp2
                                                                            go_meet
                                                                            case rel => exact ⟨rfl, below_drewN hb0 _, Lib.hid ⟨hx0, hx1, hx2, hx3, hx4⟩⟩
                                                                      case rest =>
                                                                        obtain ⟨rfl, hbc, HXc⟩ := hcut
                                                                        clear hb0 hx0 hx1 hx2 hx3 hx4 HEX
                                                                        have hb0 := hbc
                                                                        obtain ⟨hx0, hx1, hx2, hx3, hx4⟩ := HXc.out
                                                                        clear hbc HXc
                                                                        as_aux_lemma =>
                                                                          have hW := l_r8At A1 n1 c1 l1 4 5 wc (hr1.below (HB.out.trans (hb0.mono HB.out.size))) hn1 (by omega) (by omega) (by omega)
                                                                          go_wp2_with fail
                                                                          refine hW.mono ?_
                                                                          clear hW
                                                                          rintro e w' ⟨r4, hr5, _, rfl, rfl⟩
                                                                          obtain ⟨SH, hSH⟩ : ∃ SH : Int, 250 * (r4 : Int) = SH := ⟨_, rfl⟩
                                                                          have hS0 : 0 ≤ SH := by omega
                                                                          have hS1 : SH ≤ 1000 := by omega
                                                                          as_aux_lemma =>
                                                                            have hW := l_r8At A1 n1 c1 l1 5 60 wc (hr1.below (HB.out.trans (hb0.mono HB.out.size))) hn1 (by omega) (by omega) (by omega)
                                                                            go_wp2_with fail
                                                                            clear hSH hr5
                                                                            refine hW.mono ?_
                                                                            clear hW
                                                                            rintro e w' ⟨r6, hr60, _, rfl, rfl⟩
                                                                            obtain ⟨V, hV⟩ : ∃ V : Int, 1000 * (r6 : Int) = V := ⟨_, rfl⟩
                                                                            have hV0 : 0 ≤ V := by omega
                                                                            have hV1 : V ≤ 60000 := by omega
                                                                            have hBP := i_BuyPrice x U V SH wc HOK.out HSZ.out HRB.out (by omega) (by omega) hV0 (by omega) hS0 hS1
                                                                            rw [HDU.out] at hBP
                                                                            as_aux_lemma =>
                                                                              go_wp2_with fail
                                                                              clear hV hr60
                                                                              refine hBP.mono ?_
                                                                              clear hBP
                                                                              rintro e w15 ⟨rfl, hb15⟩
                                                                              replace hx0 := cell_later hb15 hx0
                                                                              replace hx1 := cell_later hb15 hx1
                                                                              replace hx2 := cell_later hb15 hx2
                                                                              replace hx3 := cell_later hb15 hx3
                                                                              replace hx4 := cell_later hb15 hx4
                                                                              replace hb0 := hb0.trans (hb15.mono hb0.size)
                                                                              clear hb15
                                                                              have hsd := mul_rangeR hDU.1 hDU.2 hS0 hS1
                                                                              have q1 : IntKind.i64.wrap (DU * SH) = DU * SH := wid (by omega)
                                                                              have q2 : (DU * SH).tdiv 1000 = DU * SH / 1000 := Int.tdiv_eq_ediv_of_nonneg hsd.1
                                                                              rw [Int.mul_comm SH DU]
                                                                              obtain ⟨Q, hQ⟩ : ∃ Q, DU * SH / 1000 = Q := ⟨_, rfl⟩
                                                                              have hq : 0 ≤ Q ∧ Q ≤ 58800 := by omega
                                                                              rw [hQ] at q2 ⊢
                                                                              have q3 : (max 0 (V - Q) != max 0 (V - Q)) = false := by simp
                                                                              have q4 : IntKind.i64.wrap (V - Q) = V - Q := wid (by omega)
                                                                              have hMB := i_MonthsToBuy x.fFee V SH w15 HRB.out.f0 HRB.out.f1 hV0 (by omega) hS0 hS1
                                                                              clear hQ hsd
                                                                              as_aux_lemma =>
                                                                                go_wp2_with fail
                                                                                clear q1 q2 q3 q4 hq
                                                                                refine hMB.mono ?_
                                                                                clear hMB
                                                                                rintro e w16 hch
                                                                                obtain ⟨f, g, hMP, rfl, hb16⟩ := hch.one
                                                                                clear hch
                                                                                replace hx0 := cell_later hb16 hx0
                                                                                replace hx1 := cell_later hb16 hx1
                                                                                replace hx2 := cell_later hb16 hx2
                                                                                replace hx3 := cell_later hb16 hx3
                                                                                replace hx4 := cell_later hb16 hx4
                                                                                replace hb0 := hb0.trans (hb16.mono hb0.size)
                                                                                clear hb16
                                                                                have HMP := Lib.hid hMP
                                                                                clear hMP
                                                                                as_aux_lemma =>
                                                                                  go_upto_region 52 with fail
                                                                                  as_aux_lemma =>
                                                                                    go_cut [403] (fun s403 wx => s403 = .bool false ∧ wx = w16)
                                                                                    case first =>
                                                                                      have hf0 := HRB.out.f0
                                                                                      have hf1 := HRB.out.f1
                                                                                      rcases HMP.out with ⟨m, rfl, rfl, hm, h1, h2⟩ | ⟨rfl, rfl, h1⟩
                                                                                      · have p1 := mul_rangeR hf0 hf1 (show 0 ≤ (m : Int) by omega) (show (m : Int) ≤ 120 by omega)
                                                                                        have p2 := mul_rangeR p1.1 p1.2 hS0 hS1
                                                                                        have q1 : IntKind.i64.wrap (x.fFee * (m : Int)) = x.fFee * (m : Int) := wid (by omega)
                                                                                        have q2 : IntKind.i64.wrap (x.fFee * (m : Int) * SH) = x.fFee * (m : Int) * SH := wid (by omega)
                                                                                        have q3 : (x.fFee * (m : Int) * SH).tdiv 1000 = x.fFee * (m : Int) * SH / 1000 := Int.tdiv_eq_ediv_of_nonneg p2.1
                                                                                        obtain ⟨Q1, hQ1⟩ : ∃ q, x.fFee * (m : Int) * SH / 1000 = q := ⟨_, rfl⟩
                                                                                        have qb : 0 ≤ Q1 ∧ Q1 ≤ 10000000 := by omega
                                                                                        rw [hQ1] at q3 h1
                                                                                        have q0 : IntKind.i64.wrap Q1 = Q1 := wid (by omega)
                                                                                        have q4 : ¬ Q1 < V := by omega
                                                                                        have q5 := decide_eq_false q4
                                                                                        have q6 : ¬ (m : Int) < 0 := by omega
                                                                                        have q7 := decide_eq_false q6
                                                                                        by_cases hm0 : 0 < m
                                                                                        · have r1 := mul_rangeR hf0 hf1 (show 0 ≤ (m : Int) - 1 by omega) (show (m : Int) - 1 ≤ 120 by omega)
                                                                                          have r2 := mul_rangeR r1.1 r1.2 hS0 hS1
                                                                                          have s1 : IntKind.i64.wrap (x.fFee * ((m : Int) - 1)) = x.fFee * ((m : Int) - 1) := wid (by omega)
                                                                                          have s2 : IntKind.i64.wrap (x.fFee * ((m : Int) - 1) * SH) = x.fFee * ((m : Int) - 1) * SH := wid (by omega)
                                                                                          have s3 : (x.fFee * ((m : Int) - 1) * SH).tdiv 1000 = x.fFee * ((m : Int) - 1) * SH / 1000 := Int.tdiv_eq_ediv_of_nonneg r2.1
                                                                                          have h3 := h2 hm0
                                                                                          obtain ⟨Q2, hQ2⟩ : ∃ q, x.fFee * ((m : Int) - 1) * SH / 1000 = q := ⟨_, rfl⟩
                                                                                          have qc : 0 ≤ Q2 ∧ Q2 ≤ 10000000 := by omega
                                                                                          rw [hQ2] at s3 h3
                                                                                          have s0 : IntKind.i64.wrap Q2 = Q2 := wid (by omega)
                                                                                          have s4 : ¬ V ≤ Q2 := by omega
                                                                                          clear hQ2 h3
                                                                                          have s5 := decide_eq_false s4
                                                                                          have s6 : (0 : Int) < (m : Int) := by omega
                                                                                          have s7 := decide_eq_true s6
                                                                                          have s8 : IntKind.i64.wrap ((m : Int) - 1) = (m : Int) - 1 := wid (by omega)
                                                                                          as_aux_lemma =>
                                                                                            clear h1 h2 p1 p2 r1 r2 HMP hQ1
                                                                                            go_wp2
                                                                                            go_meet
                                                                                            case rel => exact ⟨rfl, rfl⟩
                                                                                        · have s6 : ¬ (0 : Int) < (m : Int) := by omega
                                                                                          have s7 := decide_eq_false s6
                                                                                          as_aux_lemma =>
                                                                                            clear h1 h2 p1 p2 HMP hQ1
                                                                                            go_wp2
                                                                                            go_meet
                                                                                            case rel => exact ⟨rfl, rfl⟩
                                                                                      · have p2 := mul_rangeR (a := x.fFee * 120) (A := 588000) (by omega) (by omega) hS0 hS1
                                                                                        have q1 : IntKind.i64.wrap (x.fFee * 120) = x.fFee * 120 := wid (by omega)
                                                                                        have q2 : IntKind.i64.wrap (x.fFee * 120 * SH) = x.fFee * 120 * SH := wid (by omega)
                                                                                        have q3 : (x.fFee * 120 * SH).tdiv 1000 = x.fFee * 120 * SH / 1000 := Int.tdiv_eq_ediv_of_nonneg p2.1
                                                                                        obtain ⟨Q1, hQ1⟩ : ∃ q, x.fFee * 120 * SH / 1000 = q := ⟨_, rfl⟩
                                                                                        have qb : 0 ≤ Q1 ∧ Q1 ≤ 10000000 := by omega
                                                                                        rw [hQ1] at q3 h1
                                                                                        have q0 : IntKind.i64.wrap Q1 = Q1 := wid (by omega)
                                                                                        have q4 : ¬ V ≤ Q1 := by omega
                                                                                        have q5 := decide_eq_false q4
                                                                                        as_aux_lemma =>
                                                                                          clear h1 p2 HMP hQ1
                                                                                          go_wp2
                                                                                          go_meet
                                                                                          case rel => exact ⟨rfl, rfl⟩
                                                                                    case rest =>
                                                                                      obtain ⟨rfl, rfl⟩ := hcut
                                                                                      as_aux_lemma =>
                                                                                        go_wp2
                                                                                        exact LoopFr.of (by kernel_rfl) ⟨k + 1, by omega, rfl, by rw [HI2.out]; rfl, rfl, hb0⟩ (by have h := HM_.out; show n - (k + 1) < mm_; omega)
                    · skip
                      as_aux_lemma =>
                        obtain rfl : n = k := by omega
                        have e1 : sumBy (incR d U) (l.drop n) = 0 := by rw [List.drop_of_length_le (by rw [HL.out]; exact Nat.le_refl _)]; rfl
                        have e2 : (allTo l n).length = z := by rw [← HLZ.out, HL.out]
                        rw [e1, e2]
                        clear e1 e2 hlt hk
                        obtain ⟨w6, hw6⟩ : ∃ w6 : World, w6 = wr := ⟨_, rfl⟩
                        subst hw6
                        have HB6 := Lib.hid (HB.out.trans (hb.mono HB.out.size))
                        have HR6 := Lib.hid (HR.out.below hb)
                        have hzz : ((z : Int) != (z : Int)) = false := by simp
                        clear hb HR HB HRA HRC HRW HLA
                        as_aux_lemma =>
                          go_wp2_with fail
                          clear hzz
                          refine (l_r8At A1 n1 c1 l1 6 12 w6 (hr1.below HB6.out) hn1 (by omega) (by omega) (by omega)).mono ?_
                          rintro e w' ⟨mm, hm12, _, rfl, rfl⟩
                          obtain ⟨m, hm⟩ : ∃ m : Int, 1 + (mm : Int) = m := ⟨_, rfl⟩
                          have hm0 : 1 ≤ m := by omega
                          have hm1 : m ≤ 12 := by omega
                          as_aux_lemma =>
                            go_wp2_with fail
                            clear hm hm12
                            have hF := i_FreeFrom A n c l violin d m w6 HR6.out HO.out HS.out violin_ok.1 violin_ok.2 (by omega) (by omega) hm0 (by omega)
                            refine hF.mono ?_
                            clear hF
                            rintro e w7 ⟨⟨f, hf0, hf1, hno, hyes, rfl⟩, hb7⟩
                            have HN : Hid (l.all (openR violin m f) = true) := Lib.hid (by
                              rw [List.all_eq_true]
                              intro y hy
                              show (!(clashR y _)) = true
                              rw [hno y hy]; rfl)
                            have HY : Hid (∀ t, (d : Int) ≤ t → t < f → l.all (openR violin m t) = false) := Lib.hid fun t h0 h1 => by
                              obtain ⟨y, hy, hc⟩ := hyes t h0 h1
                              rw [← Bool.not_eq_true, List.all_eq_true]
                              intro h
                              have := h y hy
                              unfold openR at this
                              rw [hc] at this
                              cases this
                            have HB7 := Lib.hid (HB6.out.trans (hb7.mono HB6.out.size))
                            have HR7 := Lib.hid (HR6.out.below hb7)
                            clear hno hyes hb7 HR6 HB6
                            as_aux_lemma =>
                              go_wp2_with fail
                              refine wp_loop_U (fun U_ => [U_ 0, .slice A1 n1 c1, U_ 2, U_ 3, U_ 4, .slice A n c, .int .i64 d, U_ 7, U_ 8, U_ 9, U_ 10, U_ 11, U_ 12, U_ 13, U_ 14, U_ 15, U_ 16, U_ 17, U_ 18, U_ 19, U_ 20, U_ 21, U_ 22, U_ 23, U_ 24, U_ 25, U_ 26, U_ 27, U_ 28, U_ 29, U_ 30, U_ 31, U_ 32, U_ 33, U_ 34, U_ 35, U_ 36, U_ 37, U_ 38, U_ 39, U_ 40, U_ 41, .int .i64 m, .int .i64 f, U_ 44, U_ 45, U_ 46, U_ 47, U_ 48, U_ 49, U_ 50, U_ 51, U_ 52, U_ 53, U_ 54, U_ 55, U_ 56, U_ 57, U_ 58, U_ 59, U_ 60, U_ 61, U_ 62, U_ 63, U_ 64, U_ 65, U_ 66, U_ 67, U_ 68, U_ 69, U_ 70, U_ 71, U_ 72, U_ 73, U_ 74, U_ 75, U_ 76, U_ 77, U_ 78, U_ 79, U_ 80, U_ 81, U_ 82, U_ 83, U_ 84, U_ 85, U_ 86, U_ 87, U_ 88, U_ 89, U_ 90, U_ 91, U_ 92, U_ 93, U_ 94, U_ 95, U_ 96, U_ 97, U_ 98, U_ 99, U_ 100, U_ 101, U_ 102, U_ 103, U_ 104, U_ 105, U_ 106, U_ 107, U_ 108, U_ 109, U_ 110, U_ 111, U_ 112, U_ 113, U_ 114, U_ 115, U_ 116, U_ 117, U_ 118, U_ 119, U_ 120, U_ 121, U_ 122, U_ 123, U_ 124, U_ 125, U_ 126, U_ 127, U_ 128, U_ 129, U_ 130, U_ 131, U_ 132, U_ 133, U_ 134, U_ 135, U_ 136, U_ 137, U_ 138, U_ 139, U_ 140, U_ 141, U_ 142, U_ 143, U_ 144, U_ 145, U_ 146, U_ 147, U_ 148, U_ 149, U_ 150, U_ 151, U_ 152, U_ 153, U_ 154, U_ 155, U_ 156, U_ 157, U_ 158, U_ 159, U_ 160, U_ 161, U_ 162, U_ 163, U_ 164, U_ 165, U_ 166, U_ 167, U_ 168, U_ 169, U_ 170, U_ 171, U_ 172, U_ 173, U_ 174, U_ 175, U_ 176, U_ 177, U_ 178, U_ 179, U_ 180, U_ 181, U_ 182, U_ 183, U_ 184, U_ 185, U_ 186, U_ 187, U_ 188, U_ 189, U_ 190, U_ 191, U_ 192, U_ 193, U_ 194, U_ 195, U_ 196, U_ 197, U_ 198, U_ 199, U_ 200, U_ 201, U_ 202, U_ 203, U_ 204, U_ 205, U_ 206, U_ 207, U_ 208, U_ 209, U_ 210, U_ 211, U_ 212, U_ 213, U_ 214, U_ 215, U_ 216, U_ 217, U_ 218, U_ 219, U_ 220, U_ 221, U_ 222, U_ 223, U_ 224, U_ 225, U_ 226, U_ 227, U_ 228, U_ 229, U_ 230, U_ 231, U_ 232, U_ 233, U_ 234, U_ 235, U_ 236, U_ 237, U_ 238, U_ 239, U_ 240, U_ 241, U_ 242, U_ 243, U_ 244, U_ 245, U_ 246, U_ 247, U_ 248, U_ 249, U_ 250, U_ 251, U_ 252, U_ 253, U_ 254, U_ 255, U_ 256, U_ 257, U_ 258, U_ 259, U_ 260, U_ 261, U_ 262, U_ 263, U_ 264, U_ 265, U_ 266, U_ 267, U_ 268, U_ 269, U_ 270, U_ 271, U_ 272, U_ 273, U_ 274, U_ 275, U_ 276, U_ 277, U_ 278, U_ 279, U_ 280, U_ 281, U_ 282, U_ 283, U_ 284, U_ 285, U_ 286, U_ 287, U_ 288, U_ 289, U_ 290, U_ 291, U_ 292, U_ 293, U_ 294, U_ 295, U_ 296, U_ 297, U_ 298, U_ 299, U_ 300, U_ 301, U_ 302, U_ 303, U_ 304, U_ 305, U_ 306, U_ 307, U_ 308, U_ 309, U_ 310, U_ 311, U_ 312, U_ 313, U_ 314, U_ 315, U_ 316, U_ 317, U_ 318, U_ 319, U_ 320, U_ 321, U_ 322, U_ 323, U_ 324, U_ 325, U_ 326, U_ 327, U_ 328, U_ 329, U_ 330, U_ 331, U_ 332, U_ 333, U_ 334, U_ 335, U_ 336, U_ 337, U_ 338, U_ 339, U_ 340, U_ 341, U_ 342, U_ 343, U_ 344, U_ 345, U_ 346, U_ 347, U_ 348, U_ 349, U_ 350, U_ 351, U_ 352, U_ 353, U_ 354, U_ 355, U_ 356, U_ 357, U_ 358, U_ 359, U_ 360, U_ 361, U_ 362, U_ 363, U_ 364, U_ 365, U_ 366, U_ 367, U_ 368, U_ 369, U_ 370, U_ 371, U_ 372, U_ 373, U_ 374, U_ 375, U_ 376, U_ 377, U_ 378, U_ 379, U_ 380, U_ 381, U_ 382, U_ 383, U_ 384, U_ 385, U_ 386, U_ 387, U_ 388, U_ 389, U_ 390, U_ 391, U_ 392, U_ 393, U_ 394, U_ 395, U_ 396, U_ 397, U_ 398, U_ 399, U_ 400, U_ 401, U_ 402, U_ 403, U_ 404, U_ 405, U_ 406, U_ 407, U_ 408, U_ 409, U_ 410, U_ 411, U_ 412, U_ 413, U_ 414, U_ 415, U_ 416, U_ 417, U_ 418, U_ 419, U_ 420, U_ 421, U_ 422, U_ 423, U_ 424, U_ 425, U_ 426, U_ 427, U_ 428, U_ 429, U_ 430, U_ 431, U_ 432, U_ 433, U_ 434, U_ 435, U_ 436, U_ 437, U_ 438, U_ 439, U_ 440, U_ 441, U_ 442, U_ 443, U_ 444, U_ 445, U_ 446, U_ 447, U_ 448, U_ 449, U_ 450, U_ 451, U_ 452, U_ 453, U_ 454, U_ 455, U_ 456, U_ 457, U_ 458, U_ 459, U_ 460, U_ 461, U_ 462, U_ 463, U_ 464, U_ 465, U_ 466, U_ 467, U_ 468, U_ 469, U_ 470, U_ 471, U_ 472, U_ 473, U_ 474, U_ 475, U_ 476, U_ 477, U_ 478, U_ 479, U_ 480, U_ 481, U_ 482, U_ 483, U_ 484, U_ 485, U_ 486, U_ 487, U_ 488, U_ 489, U_ 490, U_ 491, U_ 492, U_ 493, U_ 494, U_ 495]) (fun U_ wr => ∃ j : Nat, j ≤ 40 ∧ U_ 45 = .int .i64 j ∧ Below w7.heap.size w7 wr) (fun U_ => 40 - (intOf (U_ 45)).toNat) (by kernel_rfl) ⟨0, Nat.zero_le _, rfl, Below.refl _ _⟩ ?_
                              intro U_ wr mmd_ hrel hmd_
                              dsimp only
                              as_aux_lemma =>
                                · skip
                                  obtain ⟨j, hj, e45_, hb⟩ := hrel
                                  have hkd_ : 40 - (intOf (U_ 45)).toNat = mmd_ := hmd_.out
                                  rw [e45_] at hkd_
                                  have HMd_ : Hid (40 - j = mmd_) := Lib.hid hkd_
                                  clear hmd_ hkd_
                                  rw [e45_]
                                  clear e45_
                                  by_cases hjn : j < 40
                                  · skip
                                    as_aux_lemma =>
                                      by_cases h0 : 0 < j
                                      · have hz0 : ((j : Int) == 0) = false := by rw [beq_eq_false_iff_ne]; omega
                                        by_cases hfd : f = d
                                        · skip
                                          as_aux_lemma =>
                                            have hfd2 : (f == (d : Int)) = true := by rw [hfd]; simp
                                            have hBz := HB7.out.trans (hb.mono HB7.out.size)
                                            clear HN HY hfd
                                            go_wp2
                                            go_ret
                                            exact ⟨rfl, hBz⟩
                                        · skip
                                          as_aux_lemma =>
                                            have hfd2 : (f == (d : Int)) = false := by rw [beq_eq_false_iff_ne]; exact hfd
                                            have hW := l_r8Wide A1 n1 c1 l1 (6 + j) 60000 wr (hr1.below (HB7.out.trans (hb.mono HB7.out.size))) hn1 (by omega) (by omega) (by omega)
                                            rw [show ((6 + j : Nat) : Int) = 6 + (j : Int) by push_cast; rfl] at hW
                                            go_wp2_with fail
                                            refine hW.mono ?_
                                            clear hW
                                            rintro e w' ⟨R, hR6, rfl, rfl⟩
                                            have p0 : 0 ≤ (R : Int) % (f - d) := Int.emod_nonneg _ (by omega)
                                            have p1 : (R : Int) % (f - d) < f - d := Int.emod_lt_of_pos _ (by omega)
                                            have p2 : (R : Int).tmod (f - d) = (R : Int) % (f - d) := Int.tmod_eq_emod_of_nonneg (by omega)
                                            obtain ⟨M, hM⟩ : ∃ M, (R : Int) % (f - d) = M := ⟨_, rfl⟩
                                            rw [hM] at p0 p1 p2
                                            have p3 : ¬ f - (d : Int) = 0 := by omega
                                            have p4 : ((f - (d : Int)) == 0) = false := by rw [beq_eq_false_iff_ne]; omega
                                            have HYA : Hid (l.all (openR violin m (d + M)) = false) := Lib.hid (HY.out _ (by omega) (by omega))
                                            obtain ⟨T, hT⟩ : ∃ T : Int, (d : Int) + M = T := ⟨_, rfl⟩
                                            have p5 : IntKind.i64.wrap ((d : Int) + M) = T := by rw [← hT]; exact wid (by omega)
                                            rw [hT] at HYA
                                            have hT0 : 0 ≤ T ∧ T ≤ 1250 := by omega
                                            as_aux_lemma =>
                                              go_wp2_with fail
                                              clear p0 p1 p2 p3 p4 p5 hM hT hfd hfd2 hR6
                                              have HV : Hid (l.all (openR violin m T) = false) := HYA
                                              clear HN HY
                                              have HJN := Lib.hid hjn
                                              have HZ0 := Lib.hid hz0
                                              clear hjn h0 hz0
                                              obtain ⟨w8, hw8⟩ : ∃ w8 : World, w8 = wr := ⟨_, rfl⟩
                                              subst hw8
                                              refine wp_loop_U (fun U_ => [U_ 0, .slice A1 n1 c1, U_ 2, U_ 3, U_ 4, .slice A n c, .int .i64 d, U_ 7, U_ 8, U_ 9, U_ 10, U_ 11, U_ 12, U_ 13, U_ 14, U_ 15, U_ 16, U_ 17, U_ 18, U_ 19, U_ 20, U_ 21, U_ 22, U_ 23, U_ 24, U_ 25, U_ 26, U_ 27, U_ 28, U_ 29, U_ 30, U_ 31, U_ 32, U_ 33, U_ 34, U_ 35, U_ 36, U_ 37, U_ 38, U_ 39, U_ 40, U_ 41, .int .i64 m, .int .i64 f, U_ 44, .int .i64 j, .int .i64 T, U_ 47, U_ 48, U_ 49, U_ 50, U_ 51, U_ 52, U_ 53, U_ 54, U_ 55, U_ 56, U_ 57, U_ 58, U_ 59, U_ 60, U_ 61, U_ 62, U_ 63, U_ 64, U_ 65, U_ 66, U_ 67, U_ 68, U_ 69, U_ 70, U_ 71, U_ 72, U_ 73, U_ 74, U_ 75, U_ 76, U_ 77, U_ 78, U_ 79, U_ 80, U_ 81, U_ 82, U_ 83, U_ 84, U_ 85, U_ 86, U_ 87, U_ 88, U_ 89, U_ 90, U_ 91, U_ 92, U_ 93, U_ 94, U_ 95, U_ 96, U_ 97, U_ 98, U_ 99, U_ 100, U_ 101, U_ 102, U_ 103, U_ 104, U_ 105, U_ 106, U_ 107, U_ 108, U_ 109, U_ 110, U_ 111, U_ 112, U_ 113, U_ 114, U_ 115, U_ 116, U_ 117, U_ 118, U_ 119, U_ 120, U_ 121, U_ 122, U_ 123, U_ 124, U_ 125, U_ 126, U_ 127, U_ 128, U_ 129, U_ 130, U_ 131, U_ 132, U_ 133, U_ 134, U_ 135, U_ 136, U_ 137, U_ 138, U_ 139, U_ 140, U_ 141, U_ 142, U_ 143, U_ 144, U_ 145, U_ 146, U_ 147, U_ 148, U_ 149, U_ 150, U_ 151, U_ 152, U_ 153, U_ 154, U_ 155, U_ 156, U_ 157, U_ 158, U_ 159, U_ 160, U_ 161, U_ 162, U_ 163, U_ 164, U_ 165, U_ 166, U_ 167, U_ 168, U_ 169, U_ 170, U_ 171, U_ 172, U_ 173, U_ 174, U_ 175, U_ 176, U_ 177, U_ 178, U_ 179, U_ 180, U_ 181, U_ 182, U_ 183, U_ 184, U_ 185, U_ 186, U_ 187, U_ 188, U_ 189, U_ 190, U_ 191, U_ 192, U_ 193, U_ 194, U_ 195, U_ 196, U_ 197, U_ 198, U_ 199, U_ 200, U_ 201, U_ 202, U_ 203, U_ 204, U_ 205, U_ 206, U_ 207, U_ 208, U_ 209, U_ 210, U_ 211, U_ 212, U_ 213, U_ 214, U_ 215, U_ 216, U_ 217, U_ 218, U_ 219, U_ 220, U_ 221, U_ 222, U_ 223, U_ 224, U_ 225, U_ 226, U_ 227, U_ 228, U_ 229, U_ 230, U_ 231, U_ 232, U_ 233, U_ 234, U_ 235, U_ 236, U_ 237, U_ 238, U_ 239, U_ 240, U_ 241, U_ 242, U_ 243, U_ 244, U_ 245, U_ 246, U_ 247, U_ 248, U_ 249, U_ 250, U_ 251, U_ 252, U_ 253, U_ 254, U_ 255, U_ 256, U_ 257, U_ 258, U_ 259, U_ 260, U_ 261, U_ 262, U_ 263, U_ 264, U_ 265, U_ 266, U_ 267, U_ 268, U_ 269, U_ 270, U_ 271, U_ 272, U_ 273, U_ 274, U_ 275, U_ 276, U_ 277, U_ 278, U_ 279, U_ 280, U_ 281, U_ 282, U_ 283, U_ 284, U_ 285, U_ 286, U_ 287, U_ 288, U_ 289, U_ 290, U_ 291, U_ 292, U_ 293, U_ 294, U_ 295, U_ 296, U_ 297, U_ 298, U_ 299, U_ 300, U_ 301, U_ 302, U_ 303, U_ 304, U_ 305, U_ 306, U_ 307, U_ 308, U_ 309, U_ 310, U_ 311, U_ 312, U_ 313, U_ 314, U_ 315, U_ 316, U_ 317, U_ 318, U_ 319, U_ 320, U_ 321, U_ 322, U_ 323, U_ 324, U_ 325, U_ 326, U_ 327, U_ 328, U_ 329, U_ 330, U_ 331, U_ 332, U_ 333, U_ 334, U_ 335, U_ 336, U_ 337, U_ 338, U_ 339, U_ 340, U_ 341, U_ 342, U_ 343, U_ 344, U_ 345, U_ 346, U_ 347, U_ 348, U_ 349, U_ 350, U_ 351, U_ 352, U_ 353, U_ 354, U_ 355, U_ 356, U_ 357, U_ 358, U_ 359, U_ 360, U_ 361, U_ 362, U_ 363, U_ 364, U_ 365, U_ 366, U_ 367, U_ 368, U_ 369, U_ 370, U_ 371, U_ 372, U_ 373, U_ 374, U_ 375, U_ 376, U_ 377, U_ 378, U_ 379, U_ 380, U_ 381, U_ 382, U_ 383, U_ 384, U_ 385, U_ 386, U_ 387, U_ 388, U_ 389, U_ 390, U_ 391, U_ 392, U_ 393, U_ 394, U_ 395, U_ 396, U_ 397, U_ 398, U_ 399, U_ 400, U_ 401, U_ 402, U_ 403, U_ 404, U_ 405, U_ 406, U_ 407, U_ 408, U_ 409, U_ 410, U_ 411, U_ 412, U_ 413, U_ 414, U_ 415, U_ 416, U_ 417, U_ 418, U_ 419, U_ 420, U_ 421, U_ 422, U_ 423, U_ 424, U_ 425, U_ 426, U_ 427, U_ 428, U_ 429, U_ 430, U_ 431, U_ 432, U_ 433, U_ 434, U_ 435, U_ 436, U_ 437, U_ 438, U_ 439, U_ 440, U_ 441, U_ 442, U_ 443, U_ 444, U_ 445, U_ 446, U_ 447, U_ 448, U_ 449, U_ 450, U_ 451, U_ 452, U_ 453, U_ 454, U_ 455, U_ 456, U_ 457, U_ 458, U_ 459, U_ 460, U_ 461, U_ 462, U_ 463, U_ 464, U_ 465, U_ 466, U_ 467, U_ 468, U_ 469, U_ 470, U_ 471, U_ 472, U_ 473, U_ 474, U_ 475, U_ 476, U_ 477, U_ 478, U_ 479, U_ 480, U_ 481, U_ 482, U_ 483, U_ 484, U_ 485, U_ 486, U_ 487, U_ 488, U_ 489, U_ 490, U_ 491, U_ 492, U_ 493, U_ 494, U_ 495]) (fun U_ wr => ∃ t : Nat, t ≤ n ∧ U_ 48 = .int .i64 t ∧ U_ 47 = .bool ((l.take t).all (openR violin m T)) ∧ Below w8.heap.size w8 wr) (fun U_ => n - (intOf (U_ 48)).toNat) (by kernel_rfl) ⟨0, Nat.zero_le _, rfl, rfl, Below.refl _ _⟩ ?_
                                              intro U_ wr mmi_ hrel hmi_
                                              dsimp only
                                              · skip
                                                obtain ⟨t, ht, e48_, e47_, hbi⟩ := hrel
                                                have hki_ : n - (intOf (U_ 48)).toNat = mmi_ := hmi_.out
                                                rw [e48_] at hki_
                                                have HMi_ : Hid (n - t = mmi_) := Lib.hid hki_
                                                clear hmi_ hki_
                                                rw [e48_, e47_]
                                                clear e48_ e47_
                                                have hbU := hb.trans (hbi.mono hb.size)
                                                by_cases htn : t < n
                                                · skip
                                                  as_aux_lemma =>
                                                    obtain ⟨b, off, rfl, hcs⟩ := HR7.out.2 (by omega)
                                                    obtain ⟨x, hx⟩ : ∃ x, l[t]? = some x := ⟨_, List.getElem?_eq_getElem (by have := HL.out; omega)⟩
                                                    have hcr := range_below (B := 0) (hcs t x hx) hbU
                                                    have hc0 := hcr 0 _ rfl
                                                    have hc1 := hcr 1 _ rfl
                                                    have hc2 := hcr 2 _ rfl
                                                    have hc3 := hcr 3 _ rfl
                                                    have hc4 := hcr 4 _ rfl
                                                    simp only [rentalE, Nat.add_zero] at hc0 hc1 hc2 hc3 hc4
                                                    have hrb := HS.out x (mem_of_get hx)
                                                    have HT : Hid ((l.take (t + 1)).all (openR violin m T) = ((l.take t).all (openR violin m T) && ((!(x.fItem.toList == violin.toList) || decide (T + 30 * m ≤ x.fDay)) || decide (endR x ≤ T)))) := Lib.hid (by rw [take_of_get hx, List.all_append, ← openR_eq hrb hm0]; simp)
                                                    have qd0 := hrb.d0; have qd1 := hrb.d1; have qm0 := hrb.m0; have qm1 := hrb.m1
                                                    rw [show endR x = x.fDay + 30 * x.fMonths from rfl] at HT
                                                    clear hcr hcs hx hrb
                                                    rcases hfv : (l.take t).all (openR violin m T) with _ | _
                                                    · rw [hfv, Bool.false_and] at HT
                                                      clear hfv
                                                      go_wp2_with fail
                                                      go_quiet (fail)
                                                      go_wp2
                                                      exact LoopFr.of (by kernel_rfl) ⟨t + 1, by omega, rfl, by rw [HT.out]; rfl, below_drewN hbi _⟩ (by have h := HMi_.out; show n - (t + 1) < mmi_; omega)
                                                    · rw [hfv, Bool.true_and] at HT
                                                      clear hfv
                                                      rcases hit : x.fItem.toList == violin.toList with _ | _
                                                      · rw [hit, Bool.not_false, Bool.true_or, Bool.true_or] at HT
                                                        rw [violin_list] at hit
                                                        go_wp2_with fail
                                                        go_quiet (fail)
                                                        go_wp2
                                                        exact LoopFr.of (by kernel_rfl) ⟨t + 1, by omega, rfl, by rw [HT.out]; rfl, below_drewN hbi _⟩ (by have h := HMi_.out; show n - (t + 1) < mmi_; omega)
                                                      · rw [hit, Bool.not_true, Bool.false_or] at HT
                                                        rw [violin_list] at hit
                                                        by_cases ha : T + 30 * m ≤ x.fDay
                                                        · rw [decide_eq_true ha, Bool.true_or] at HT
                                                          go_wp2_with fail
                                                          go_quiet (fail)
                                                          go_wp2
                                                          exact LoopFr.of (by kernel_rfl) ⟨t + 1, by omega, rfl, by rw [HT.out]; rfl, below_drewN hbi _⟩ (by have h := HMi_.out; show n - (t + 1) < mmi_; omega)
                                                        · rw [decide_eq_false ha, Bool.false_or] at HT
                                                          have qE1 : IntKind.i64.wrap (30 * x.fMonths) = 30 * x.fMonths := wid (by omega)
                                                          have qE2 : IntKind.i64.wrap (x.fDay + 30 * x.fMonths) = x.fDay + 30 * x.fMonths := wid (by omega)
                                                          have qm1 : IntKind.i64.wrap (30 * m) = 30 * m := wid (by omega)
                                                          have qm2 : IntKind.i64.wrap (T + 30 * m) = T + 30 * m := wid (by omega)
                                                          have qha := decide_eq_false ha
                                                          by_cases hc : x.fDay + 30 * x.fMonths ≤ T
                                                          · rw [decide_eq_true hc] at HT
                                                            have qhc := decide_eq_true hc
                                                            go_wp2_with fail
                                                            go_quiet (fail)
                                                            go_wp2
                                                            exact LoopFr.of (by kernel_rfl) ⟨t + 1, by omega, rfl, by rw [HT.out]; rfl, below_drewN hbi _⟩ (by have h := HMi_.out; show n - (t + 1) < mmi_; omega)
                                                          · rw [decide_eq_false hc] at HT
                                                            have qhc := decide_eq_false hc
                                                            go_wp2_with fail
                                                            go_quiet (fail)
                                                            go_wp2
                                                            exact LoopFr.of (by kernel_rfl) ⟨t + 1, by omega, rfl, by rw [HT.out]; rfl, below_drewN hbi _⟩ (by have h := HMi_.out; show n - (t + 1) < mmi_; omega)
                                                · skip
                                                  as_aux_lemma =>
                                                    obtain rfl : n = t := by omega
                                                    have E : (l.take n).all (openR violin m T) = false := by rw [List.take_of_length_le (by rw [HL.out]; exact Nat.le_refl _)]; exact HV.out
                                                    rw [E]
                                                    clear E HV
                                                    have hjn := HJN.out
                                                    have hz0 := HZ0.out
                                                    go_wp2
                                                    exact LoopFr.of (by kernel_rfl) ⟨j + 1, by omega, rfl, hbU⟩ (by have h := HMd_.out; show 40 - (j + 1) < mmd_; omega)
                                      · skip
                                        as_aux_lemma =>
                                          have hz0 : ((j : Int) == 0) = true := by rw [show j = 0 by omega]; rfl
                                          go_wp2_with fail
                                          have HV : Hid (l.all (openR violin m f) = true) := HN
                                          clear HN HY
                                          have HJN := Lib.hid hjn
                                          have HZ0 := Lib.hid hz0
                                          clear hjn h0 hz0
                                          obtain ⟨w8, hw8⟩ : ∃ w8 : World, w8 = wr := ⟨_, rfl⟩
                                          subst hw8
                                          refine wp_loop_U (fun U_ => [U_ 0, .slice A1 n1 c1, U_ 2, U_ 3, U_ 4, .slice A n c, .int .i64 d, U_ 7, U_ 8, U_ 9, U_ 10, U_ 11, U_ 12, U_ 13, U_ 14, U_ 15, U_ 16, U_ 17, U_ 18, U_ 19, U_ 20, U_ 21, U_ 22, U_ 23, U_ 24, U_ 25, U_ 26, U_ 27, U_ 28, U_ 29, U_ 30, U_ 31, U_ 32, U_ 33, U_ 34, U_ 35, U_ 36, U_ 37, U_ 38, U_ 39, U_ 40, U_ 41, .int .i64 m, .int .i64 f, U_ 44, .int .i64 j, .int .i64 f, U_ 47, U_ 48, U_ 49, U_ 50, U_ 51, U_ 52, U_ 53, U_ 54, U_ 55, U_ 56, U_ 57, U_ 58, U_ 59, U_ 60, U_ 61, U_ 62, U_ 63, U_ 64, U_ 65, U_ 66, U_ 67, U_ 68, U_ 69, U_ 70, U_ 71, U_ 72, U_ 73, U_ 74, U_ 75, U_ 76, U_ 77, U_ 78, U_ 79, U_ 80, U_ 81, U_ 82, U_ 83, U_ 84, U_ 85, U_ 86, U_ 87, U_ 88, U_ 89, U_ 90, U_ 91, U_ 92, U_ 93, U_ 94, U_ 95, U_ 96, U_ 97, U_ 98, U_ 99, U_ 100, U_ 101, U_ 102, U_ 103, U_ 104, U_ 105, U_ 106, U_ 107, U_ 108, U_ 109, U_ 110, U_ 111, U_ 112, U_ 113, U_ 114, U_ 115, U_ 116, U_ 117, U_ 118, U_ 119, U_ 120, U_ 121, U_ 122, U_ 123, U_ 124, U_ 125, U_ 126, U_ 127, U_ 128, U_ 129, U_ 130, U_ 131, U_ 132, U_ 133, U_ 134, U_ 135, U_ 136, U_ 137, U_ 138, U_ 139, U_ 140, U_ 141, U_ 142, U_ 143, U_ 144, U_ 145, U_ 146, U_ 147, U_ 148, U_ 149, U_ 150, U_ 151, U_ 152, U_ 153, U_ 154, U_ 155, U_ 156, U_ 157, U_ 158, U_ 159, U_ 160, U_ 161, U_ 162, U_ 163, U_ 164, U_ 165, U_ 166, U_ 167, U_ 168, U_ 169, U_ 170, U_ 171, U_ 172, U_ 173, U_ 174, U_ 175, U_ 176, U_ 177, U_ 178, U_ 179, U_ 180, U_ 181, U_ 182, U_ 183, U_ 184, U_ 185, U_ 186, U_ 187, U_ 188, U_ 189, U_ 190, U_ 191, U_ 192, U_ 193, U_ 194, U_ 195, U_ 196, U_ 197, U_ 198, U_ 199, U_ 200, U_ 201, U_ 202, U_ 203, U_ 204, U_ 205, U_ 206, U_ 207, U_ 208, U_ 209, U_ 210, U_ 211, U_ 212, U_ 213, U_ 214, U_ 215, U_ 216, U_ 217, U_ 218, U_ 219, U_ 220, U_ 221, U_ 222, U_ 223, U_ 224, U_ 225, U_ 226, U_ 227, U_ 228, U_ 229, U_ 230, U_ 231, U_ 232, U_ 233, U_ 234, U_ 235, U_ 236, U_ 237, U_ 238, U_ 239, U_ 240, U_ 241, U_ 242, U_ 243, U_ 244, U_ 245, U_ 246, U_ 247, U_ 248, U_ 249, U_ 250, U_ 251, U_ 252, U_ 253, U_ 254, U_ 255, U_ 256, U_ 257, U_ 258, U_ 259, U_ 260, U_ 261, U_ 262, U_ 263, U_ 264, U_ 265, U_ 266, U_ 267, U_ 268, U_ 269, U_ 270, U_ 271, U_ 272, U_ 273, U_ 274, U_ 275, U_ 276, U_ 277, U_ 278, U_ 279, U_ 280, U_ 281, U_ 282, U_ 283, U_ 284, U_ 285, U_ 286, U_ 287, U_ 288, U_ 289, U_ 290, U_ 291, U_ 292, U_ 293, U_ 294, U_ 295, U_ 296, U_ 297, U_ 298, U_ 299, U_ 300, U_ 301, U_ 302, U_ 303, U_ 304, U_ 305, U_ 306, U_ 307, U_ 308, U_ 309, U_ 310, U_ 311, U_ 312, U_ 313, U_ 314, U_ 315, U_ 316, U_ 317, U_ 318, U_ 319, U_ 320, U_ 321, U_ 322, U_ 323, U_ 324, U_ 325, U_ 326, U_ 327, U_ 328, U_ 329, U_ 330, U_ 331, U_ 332, U_ 333, U_ 334, U_ 335, U_ 336, U_ 337, U_ 338, U_ 339, U_ 340, U_ 341, U_ 342, U_ 343, U_ 344, U_ 345, U_ 346, U_ 347, U_ 348, U_ 349, U_ 350, U_ 351, U_ 352, U_ 353, U_ 354, U_ 355, U_ 356, U_ 357, U_ 358, U_ 359, U_ 360, U_ 361, U_ 362, U_ 363, U_ 364, U_ 365, U_ 366, U_ 367, U_ 368, U_ 369, U_ 370, U_ 371, U_ 372, U_ 373, U_ 374, U_ 375, U_ 376, U_ 377, U_ 378, U_ 379, U_ 380, U_ 381, U_ 382, U_ 383, U_ 384, U_ 385, U_ 386, U_ 387, U_ 388, U_ 389, U_ 390, U_ 391, U_ 392, U_ 393, U_ 394, U_ 395, U_ 396, U_ 397, U_ 398, U_ 399, U_ 400, U_ 401, U_ 402, U_ 403, U_ 404, U_ 405, U_ 406, U_ 407, U_ 408, U_ 409, U_ 410, U_ 411, U_ 412, U_ 413, U_ 414, U_ 415, U_ 416, U_ 417, U_ 418, U_ 419, U_ 420, U_ 421, U_ 422, U_ 423, U_ 424, U_ 425, U_ 426, U_ 427, U_ 428, U_ 429, U_ 430, U_ 431, U_ 432, U_ 433, U_ 434, U_ 435, U_ 436, U_ 437, U_ 438, U_ 439, U_ 440, U_ 441, U_ 442, U_ 443, U_ 444, U_ 445, U_ 446, U_ 447, U_ 448, U_ 449, U_ 450, U_ 451, U_ 452, U_ 453, U_ 454, U_ 455, U_ 456, U_ 457, U_ 458, U_ 459, U_ 460, U_ 461, U_ 462, U_ 463, U_ 464, U_ 465, U_ 466, U_ 467, U_ 468, U_ 469, U_ 470, U_ 471, U_ 472, U_ 473, U_ 474, U_ 475, U_ 476, U_ 477, U_ 478, U_ 479, U_ 480, U_ 481, U_ 482, U_ 483, U_ 484, U_ 485, U_ 486, U_ 487, U_ 488, U_ 489, U_ 490, U_ 491, U_ 492, U_ 493, U_ 494, U_ 495]) (fun U_ wr => ∃ t : Nat, t ≤ n ∧ U_ 48 = .int .i64 t ∧ U_ 47 = .bool ((l.take t).all (openR violin m f)) ∧ Below w8.heap.size w8 wr) (fun U_ => n - (intOf (U_ 48)).toNat) (by kernel_rfl) ⟨0, Nat.zero_le _, rfl, rfl, Below.refl _ _⟩ ?_
                                          intro U_ wr mmi_ hrel hmi_
                                          dsimp only
                                          · skip
                                            obtain ⟨t, ht, e48_, e47_, hbi⟩ := hrel
                                            have hki_ : n - (intOf (U_ 48)).toNat = mmi_ := hmi_.out
                                            rw [e48_] at hki_
                                            have HMi_ : Hid (n - t = mmi_) := Lib.hid hki_
                                            clear hmi_ hki_
                                            rw [e48_, e47_]
                                            clear e48_ e47_
                                            have hbU := hb.trans (hbi.mono hb.size)
                                            by_cases htn : t < n
                                            · skip
                                              as_aux_lemma =>
                                                obtain ⟨b, off, rfl, hcs⟩ := HR7.out.2 (by omega)
                                                obtain ⟨x, hx⟩ : ∃ x, l[t]? = some x := ⟨_, List.getElem?_eq_getElem (by have := HL.out; omega)⟩
                                                have hcr := range_below (B := 0) (hcs t x hx) hbU
                                                have hc0 := hcr 0 _ rfl
                                                have hc1 := hcr 1 _ rfl
                                                have hc2 := hcr 2 _ rfl
                                                have hc3 := hcr 3 _ rfl
                                                have hc4 := hcr 4 _ rfl
                                                simp only [rentalE, Nat.add_zero] at hc0 hc1 hc2 hc3 hc4
                                                have hrb := HS.out x (mem_of_get hx)
                                                have HT : Hid ((l.take (t + 1)).all (openR violin m f) = ((l.take t).all (openR violin m f) && ((!(x.fItem.toList == violin.toList) || decide (f + 30 * m ≤ x.fDay)) || decide (endR x ≤ f)))) := Lib.hid (by rw [take_of_get hx, List.all_append, ← openR_eq hrb hm0]; simp)
                                                have qd0 := hrb.d0; have qd1 := hrb.d1; have qm0 := hrb.m0; have qm1 := hrb.m1
                                                rw [show endR x = x.fDay + 30 * x.fMonths from rfl] at HT
                                                clear hcr hcs hx hrb
                                                rcases hfv : (l.take t).all (openR violin m f) with _ | _
                                                · rw [hfv, Bool.false_and] at HT
                                                  clear hfv
                                                  go_wp2_with fail
                                                  go_quiet (fail)
                                                  go_wp2
                                                  exact LoopFr.of (by kernel_rfl) ⟨t + 1, by omega, rfl, by rw [HT.out]; rfl, below_drewN hbi _⟩ (by have h := HMi_.out; show n - (t + 1) < mmi_; omega)
                                                · rw [hfv, Bool.true_and] at HT
                                                  clear hfv
                                                  rcases hit : x.fItem.toList == violin.toList with _ | _
                                                  · rw [hit, Bool.not_false, Bool.true_or, Bool.true_or] at HT
                                                    rw [violin_list] at hit
                                                    go_wp2_with fail
                                                    go_quiet (fail)
                                                    go_wp2
                                                    exact LoopFr.of (by kernel_rfl) ⟨t + 1, by omega, rfl, by rw [HT.out]; rfl, below_drewN hbi _⟩ (by have h := HMi_.out; show n - (t + 1) < mmi_; omega)
                                                  · rw [hit, Bool.not_true, Bool.false_or] at HT
                                                    rw [violin_list] at hit
                                                    by_cases ha : f + 30 * m ≤ x.fDay
                                                    · rw [decide_eq_true ha, Bool.true_or] at HT
                                                      go_wp2_with fail
                                                      go_quiet (fail)
                                                      go_wp2
                                                      exact LoopFr.of (by kernel_rfl) ⟨t + 1, by omega, rfl, by rw [HT.out]; rfl, below_drewN hbi _⟩ (by have h := HMi_.out; show n - (t + 1) < mmi_; omega)
                                                    · rw [decide_eq_false ha, Bool.false_or] at HT
                                                      have qE1 : IntKind.i64.wrap (30 * x.fMonths) = 30 * x.fMonths := wid (by omega)
                                                      have qE2 : IntKind.i64.wrap (x.fDay + 30 * x.fMonths) = x.fDay + 30 * x.fMonths := wid (by omega)
                                                      have qm1 : IntKind.i64.wrap (30 * m) = 30 * m := wid (by omega)
                                                      have qm2 : IntKind.i64.wrap (f + 30 * m) = f + 30 * m := wid (by omega)
                                                      have qha := decide_eq_false ha
                                                      by_cases hc : x.fDay + 30 * x.fMonths ≤ f
                                                      · rw [decide_eq_true hc] at HT
                                                        have qhc := decide_eq_true hc
                                                        go_wp2_with fail
                                                        go_quiet (fail)
                                                        go_wp2
                                                        exact LoopFr.of (by kernel_rfl) ⟨t + 1, by omega, rfl, by rw [HT.out]; rfl, below_drewN hbi _⟩ (by have h := HMi_.out; show n - (t + 1) < mmi_; omega)
                                                      · rw [decide_eq_false hc] at HT
                                                        have qhc := decide_eq_false hc
                                                        go_wp2_with fail
                                                        go_quiet (fail)
                                                        go_wp2
                                                        exact LoopFr.of (by kernel_rfl) ⟨t + 1, by omega, rfl, by rw [HT.out]; rfl, below_drewN hbi _⟩ (by have h := HMi_.out; show n - (t + 1) < mmi_; omega)
                                            · skip
                                              as_aux_lemma =>
                                                obtain rfl : n = t := by omega
                                                have E : (l.take n).all (openR violin m f) = true := by rw [List.take_of_length_le (by rw [HL.out]; exact Nat.le_refl _)]; exact HV.out
                                                rw [E]
                                                clear E HV
                                                have hjn := HJN.out
                                                have hz0 := HZ0.out
                                                go_wp2
                                                exact LoopFr.of (by kernel_rfl) ⟨j + 1, by omega, rfl, hbU⟩ (by have h := HMd_.out; show 40 - (j + 1) < mmd_; omega)
                                  · have hBz := HB7.out.trans (hb.mono HB7.out.size)
                                    go_wp2
                                    go_ret
                                    exact ⟨rfl, hBz⟩
end Go.Proofs.YthfedegmplmgfaaGreatDoor
