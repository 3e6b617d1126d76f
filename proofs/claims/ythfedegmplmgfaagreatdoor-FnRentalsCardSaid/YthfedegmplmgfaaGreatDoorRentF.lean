/- Rentals: those of a day, the fees of some days, the reference's fees. Printed by a program of mine. -/
import Derived.Test.YthfedegmplmgfaaGreatDoorRows
import Derived.Test.YthfedegmplmgfaaGreatDoorRentI
namespace Go.Proofs.YthfedegmplmgfaaGreatDoor
set_option linter.unusedVariables false
set_option linter.unusedSimpArgs false
set_option linter.unusedSectionVars false
open Go.RowKit

set_option maxRecDepth 100000 in
set_option maxHeartbeats 4000000 in
theorem i_ActiveOn (A : Option Addr) (n c : Nat) (l : List DRental) (d : Int) (w : World) (hr : Rd rentalE w A n l) (hok : OkRentals l) (hsm : ∀ x ∈ l, RB x) (h0 : 0 ≤ d) (h1 : d ≤ 100000) :
    Calls Tryz.prog 7 #[.slice A n c, .int .i64 d] w (RetLC strE 9 (actIds d l) 0 w) := by
  obtain ⟨i0, hi, hz0, hz1, hz2⟩ := info_parts Tryz.info_str
  have HZ := Lib.hid (And.intro hz1 hz2)
  clear hz1 hz2
  have hI := fun W => i_isRentDay' d W ⟨h0, h1⟩
  have Hl := Lib.hid hr.1
  have hn : n ≤ 12 := by have := hok.few; have := hr.1; omega
  have HO := Lib.hid hok
  have HS := Lib.hid hsm
  have hV := fun W hb => i_ValidRentals_yes A n c l W (hr.below hb) hok
  have HR := Lib.hid hr
  clear hok hr hsm
  go_enter Tryz.func7, Tryz.ntmps7
  go_wp2_with fail
  refine (hV _ (Below.refl _ _)).mono ?_
  rintro e w1 ⟨rfl, hb1⟩
  have HB1 := Lib.hid hb1
  have HR1 := Lib.hid (HR.out.below hb1)
  clear hV hb1 HR
  go_wp2_with fail
  refine (hI _).mono ?_
  rintro e w' ⟨rfl, rfl⟩
  clear hI
  have HG0 : Hid (GL strE 9 w1.heap.size (w1.alloc (.cells #[] 9)) (.slice (some ⟨w1.heap.size, 0, none⟩) 0 0) []) := Lib.hid (GL.mk0 (Nat.le_refl _))
  have hbS : Below w1.heap.size w1 (w1.alloc (.cells #[] 9)) := (Below.refl _ _).alloc (Nat.le_refl _) _
  go_wp2_with fail
  go_loopw [6, 18] (fun v i wr => ∃ (k : Nat) (A' : Option Addr) (z c' : Nat), k ≤ n ∧ i = .int .i64 k ∧ v = .slice A' z c' ∧ z ≤ k ∧ Hid (GL strE 9 w1.heap.size wr (.slice A' z c') (actIds d (l.take k))) ∧ Below w1.heap.size w1 wr) (fun _ i _ => n - (intOf i).toNat)
  case atStart => exact ⟨0, _, 0, 0, Nat.zero_le _, rfl, rfl, by omega, Lib.hid (by simpa [actIds] using HG0.out), hbS⟩
  case round =>
    obtain ⟨k, A', z, c', hk, rfl, rfl, hz, HGL, hb⟩ := hrel
    clear HG0 hbS
    by_cases hlt : k < n
    · skip
      obtain ⟨b, off, rfl, hcs⟩ := HR1.out.2 (by omega)
      obtain ⟨x, hx⟩ : ∃ x, l[k]? = some x := ⟨_, List.getElem?_eq_getElem (by have := Hl.out; omega)⟩
      have hcr := range_below (B := 0) (hcs k x hx) hb
      have hc0 := hcr 0 _ rfl
      have hc1 := hcr 1 _ rfl
      have hc2 := hcr 2 _ rfl
      have hc3 := hcr 3 _ rfl
      have hc4 := hcr 4 _ rfl
      simp only [rentalE, Nat.add_zero] at hc0 hc1 hc2 hc3 hc4
      have HG := Lib.hid (HS.out x (mem_of_get hx))
      have HX := Lib.hid hx
      have HCS := Lib.hid hcs
      clear hcr hx hcs
      have hcx := range_new wr #[.string x.fId, .string x.fItem, .int .i64 x.fDay, .int .i64 x.fMonths, .int .i64 x.fFee] 37
      have hba : Below wr.heap.size wr (wr.alloc (.cells #[.string x.fId, .string x.fItem, .int .i64 x.fDay, .int .i64 x.fMonths, .int .i64 x.fFee] 37)) := (Below.refl _ _).alloc (Nat.le_refl _) _
      obtain ⟨W0, hW0⟩ : ∃ W0, wr.alloc (.cells #[.string x.fId, .string x.fItem, .int .i64 x.fDay, .int .i64 x.fMonths, .int .i64 x.fFee] 37) = W0 := ⟨_, rfl⟩
      rw [hW0] at hcx hba
      have hb0 := hb.trans (hba.mono hb.size)
      have hx0 := hcx 0 _ rfl
      have hx1 := hcx 1 _ rfl
      have hx2 := hcx 2 _ rfl
      have hx3 := hcx 3 _ rfl
      have hx4 := hcx 4 _ rfl
      simp only [Nat.zero_add] at hx0 hx1 hx2 hx3 hx4
      clear hcx
      have hE := fun W => i_end x W HG.out
      have HE : Hid (∀ W, Calls Tryz.prog 26 #[.agg #[.string x.fId, .string x.fItem, .int .i64 x.fDay, .int .i64 x.fMonths, .int .i64 x.fFee]] W fun e w' => e = .returned (.int .i64 (endR x)) ∧ Below W.heap.size W w') := Lib.hid hE
      have hen := HG.out.end_
      have hd0 := HG.out.d0
      have hd1 := HG.out.d1
      have HGL0 := Lib.hid (HGL.out.below hba)
      have HT : Hid (actIds d (l.take (k + 1)) = actIds d (l.take k) ++ actIds d [x]) := Lib.hid (by rw [take_of_get HX.out, actIds_app])
      obtain ⟨q, hq⟩ : ∃ q, endR x = q := ⟨_, rfl⟩
      rw [hq] at HE hen
      have HW : Hid (∀ W, Calls Tryz.prog 25 #[.int .i64 d, .int .i64 x.fDay, .int .i64 (q - 1)] W fun e w' => e = .returned (.bool (inB d x.fDay (q - 1))) ∧ W = w') := Lib.hid fun W => i_within d x.fDay (q - 1) W
      have HA : Hid (inB d x.fDay (q - 1) = actR d x) := Lib.hid (by unfold inB actR; rw [hq])
      have q1 : IntKind.i64.wrap (q - 1) = q - 1 := wid (by omega)
      clear hq HGL hba hE hen hd0 hd1
      go_wp2_with fail
      try rw [hW0]
      clear hW0 hc0 hc1 hc2 hc3 hc4
      go_region_held3 (fun w' => (w'.cell? ⟨wr.heap.size, 0, none⟩ = some (.string x.fId) ∧ w'.cell? ⟨wr.heap.size, 1, none⟩ = some (.string x.fItem) ∧ w'.cell? ⟨wr.heap.size, 2, none⟩ = some (.int .i64 x.fDay) ∧ w'.cell? ⟨wr.heap.size, 3, none⟩ = some (.int .i64 x.fMonths) ∧ w'.cell? ⟨wr.heap.size, 4, none⟩ = some (.int .i64 x.fFee)) ∧ Hid (GL strE 9 w1.heap.size w' (.slice A' z c') (actIds d (l.take k))) ∧ Below w1.heap.size w1 w')
        (first | exact ⟨⟨hx0, hx1, hx2, hx3, hx4⟩, Lib.hid HGL0.out.drew, hb0.drew⟩
               | (go_split_ands; exact ⟨⟨cell_later hb2 (by assumption), cell_later hb2 (by assumption), cell_later hb2 (by assumption), cell_later hb2 (by assumption), cell_later hb2 (by assumption)⟩, Lib.hid (GL.below (Hid.out (by assumption)) hb2), Below.trans (by assumption) (hb2.mono (Below.size (by assumption)))⟩)
               | (go_split_ands; exact ⟨⟨by assumption, by assumption, by assumption, by assumption, by assumption⟩, by assumption, by assumption⟩))
        (first | (go_at_call 26; go_split_ands; refine (HE.out _).mono ?_; rintro e w2 ⟨rfl, hb2⟩) | (go_at_call 25; refine (HW.out _).mono ?_; rintro e w2 ⟨rfl, rfl⟩))
      rename_i hh
      obtain ⟨⟨hy0, hy1, hy2, hy3, hy4⟩, HG2, hbE⟩ := hh
      rw [HA.out]
      rcases hac : actR d x with _ | _
      · have HN : Hid (actIds d (l.take (k + 1)) = actIds d (l.take k)) := Lib.hid (by rw [HT.out, show actIds d [x] = [] by unfold actIds; simp [hac], List.append_nil])
        rw [← HN.out] at HG2
        clear hac HT
        go_wp2
        first | (refine ⟨⟨k + 1, A', z, c', by omega, by go_num, rfl, by omega, HG2, hbE⟩, ?_⟩; (simp [intOf]; omega)) | (go_roundw; (case rel => first | exact ⟨k + 1, A', z, c', by omega, by go_num, rfl, by omega, HG2, hbE⟩ | ((try refine ⟨trivial, ?_⟩); (repeat apply Exists.intro); exact ⟨⟨k + 1, A', z, c', by omega, by go_num, rfl, by omega, HG2, hbE⟩, rfl⟩)); (case measure => (simp [intOf]; omega)))
      · have HN : Hid (actIds d (l.take (k + 1)) = actIds d (l.take k) ++ [x.fId]) := Lib.hid (by rw [HT.out]; congr 1; unfold actIds; simp [hac])
        have hgl := HG2.out
        clear hac HT HG2 HGL0
        go_wp2_with (at_builtin; refine wpList_pushO strE rfl _ _ 27 rfl w1.heap.size 9 i0 _ 16 Tryz.underlying27 hi hz0 HZ.out.1 HZ.out.2 rfl A' z c' _ x.fId rfl (hgl.alloc _) _ rfl (range_new _ _ _) (by omega) (by decide) (by have := hbE.size; simp; omega) ?_; intro A2 c2 w4 hgl4 ht4 _)
        have HG4 : Hid (GL strE 9 w1.heap.size w4 (.slice A2 (z + 1) c2) (actIds d (l.take (k + 1)))) := Lib.hid (by rw [HN.out]; exact hgl4)
        have hb4 : Below w1.heap.size w1 w4 := Below.touch (hbE.alloc hbE.size _) ht4 (fun q hq => (hgl.lt q hq).1) (by have := hbE.size; simp; omega)
        clear hgl hgl4 ht4
        go_wp2
        first | (refine ⟨⟨k + 1, A2, z + 1, c2, by omega, by go_num, rfl, by omega, HG4, hb4⟩, ?_⟩; (simp [intOf]; omega)) | (go_roundw; (case rel => first | exact ⟨k + 1, A2, z + 1, c2, by omega, by go_num, rfl, by omega, HG4, hb4⟩ | ((try refine ⟨trivial, ?_⟩); (repeat apply Exists.intro); exact ⟨⟨k + 1, A2, z + 1, c2, by omega, by go_num, rfl, by omega, HG4, hb4⟩, rfl⟩)); (case measure => (simp [intOf]; omega)))
    · obtain rfl : k = n := by omega
      have E : Hid (l.take k = l) := Lib.hid (List.take_of_length_le (by have := Hl.out; omega))
      rw [E.out] at HGL
      have hgl := HGL.out
      clear HGL
      go_wp2
      go_ret2
      have ho := (hgl.mono HB1.out.size).own
      exact ⟨A', z, c', ho.1, by omega, ho.2, rfl, HB1.out.trans (hb.mono HB1.out.size)⟩
set_option maxRecDepth 100000 in
set_option maxHeartbeats 4000000 in
theorem i_IncomeBetween (A : Option Addr) (n c : Nat) (l : List DRental) (d u : Int) (w : World) (hr : Rd rentalE w A n l) (hok : OkRentals l) (hsm : ∀ x ∈ l, RB x) (h0 : 0 ≤ d) (h1 : d ≤ u) (h2 : u ≤ 100000) :
    Calls Tryz.prog 9 #[.slice A n c, .int .i64 d, .int .i64 u] w fun e w' => e = .returned (.tuple #[.int .i64 (sumBy (incR d u) l), .int .i64 0]) ∧ Below w.heap.size w w' := by
  have hI := fun W => i_isRentDay' d W ⟨h0, by omega⟩
  have hJ := fun W => i_within u d 100000 W
  rw [inB_true h1 h2] at hJ
  have Hl := Lib.hid hr.1
  have hn : n ≤ 12 := by have := hok.few; have := hr.1; omega
  have HO := Lib.hid hok
  have HS := Lib.hid hsm
  have hV := fun W hb => i_ValidRentals_yes A n c l W (hr.below hb) hok
  have HR := Lib.hid hr
  clear hok hr hsm
  go_enter Tryz.func9, Tryz.ntmps9
  go_wp2_with fail
  refine (hV _ (Below.refl _ _)).mono ?_
  rintro e w1 ⟨rfl, hb1⟩
  have HB1 := Lib.hid hb1
  have HR1 := Lib.hid (HR.out.below hb1)
  clear hV hb1 HR
  go_wp2_with fail
  refine (hI _).mono ?_
  rintro e w' ⟨rfl, rfl⟩
  clear hI
  go_wp2_with fail
  refine (hJ _).mono ?_
  rintro e w' ⟨rfl, rfl⟩
  clear hJ
  go_wp2_with fail
  go_loopw [8, 25] (fun v i wr => ∃ k : Nat, k ≤ n ∧ i = .int .i64 k ∧ v = .int .i64 (sumBy (incR d u) (l.take k)) ∧ Below w1.heap.size w1 wr) (fun _ i _ => n - (intOf i).toNat)
  case atStart => exact ⟨0, Nat.zero_le _, rfl, by simp [sumBy], Below.refl _ _⟩
  case round =>
    obtain ⟨k, hk, rfl, rfl, hb⟩ := hrel
    by_cases hlt : k < n
    · have hsr : -(58800 * (l.take k).length) ≤ sumBy (incR d u) (l.take k) ∧ sumBy (incR d u) (l.take k) ≤ 58800 * (l.take k).length := sumBy_abs fun y hy => (HS.out y (List.mem_of_mem_take hy)).inc d u
      have hlk : (l.take k).length ≤ 12 := by have := Hl.out; rw [List.length_take]; omega
      obtain ⟨b, off, rfl, hcs⟩ := HR1.out.2 (by omega)
      obtain ⟨x, hx⟩ : ∃ x, l[k]? = some x := ⟨_, List.getElem?_eq_getElem (by have := Hl.out; omega)⟩
      have hcr := range_below (B := 0) (hcs k x hx) hb
      have hc0 := hcr 0 _ rfl
      have hc1 := hcr 1 _ rfl
      have hc2 := hcr 2 _ rfl
      have hc3 := hcr 3 _ rfl
      have hc4 := hcr 4 _ rfl
      simp only [rentalE, Nat.add_zero] at hc0 hc1 hc2 hc3 hc4
      have HG := Lib.hid (HS.out x (mem_of_get hx))
      have HX := Lib.hid hx
      have HCS := Lib.hid hcs
      clear hcr hx hcs
      have hcx := range_new wr #[.string x.fId, .string x.fItem, .int .i64 x.fDay, .int .i64 x.fMonths, .int .i64 x.fFee] 37
      have hba : Below wr.heap.size wr (wr.alloc (.cells #[.string x.fId, .string x.fItem, .int .i64 x.fDay, .int .i64 x.fMonths, .int .i64 x.fFee] 37)) := (Below.refl _ _).alloc (Nat.le_refl _) _
      obtain ⟨W0, hW0⟩ : ∃ W0, wr.alloc (.cells #[.string x.fId, .string x.fItem, .int .i64 x.fDay, .int .i64 x.fMonths, .int .i64 x.fFee] 37) = W0 := ⟨_, rfl⟩
      rw [hW0] at hcx hba
      have hb0 := hb.trans (hba.mono hb.size)
      have hx0 := hcx 0 _ rfl
      have hx1 := hcx 1 _ rfl
      have hx2 := hcx 2 _ rfl
      have hx3 := hcx 3 _ rfl
      have hx4 := hcx 4 _ rfl
      simp only [Nat.zero_add] at hx0 hx1 hx2 hx3 hx4
      clear hcx
      have HD1 : Hid (∀ W, Calls Tryz.prog 28 #[.agg #[.string x.fId, .string x.fItem, .int .i64 x.fDay, .int .i64 x.fMonths, .int .i64 x.fFee], .int .i64 u] W fun e w' => e = .returned (.int .i64 (dueR x u)) ∧ Below W.heap.size W w') := Lib.hid fun W => i_due x u W HG.out (by omega) h2
      have HD2 : Hid (∀ W, Calls Tryz.prog 28 #[.agg #[.string x.fId, .string x.fItem, .int .i64 x.fDay, .int .i64 x.fMonths, .int .i64 x.fFee], .int .i64 (d - 1)] W fun e w' => e = .returned (.int .i64 (dueR x (d - 1))) ∧ Below W.heap.size W w') := Lib.hid fun W => i_due x (d - 1) W HG.out (by omega) (by omega)
      have hd1 := HG.out.due u
      have hd2 := HG.out.due (d - 1)
      have HT := Lib.hid (sumBy_take (f := incR d u) HX.out)
      have HI : Hid (incR d u x = dueR x u - dueR x (d - 1)) := Lib.hid rfl
      obtain ⟨p, hp⟩ : ∃ p, dueR x u = p := ⟨_, rfl⟩
      obtain ⟨q, hq⟩ : ∃ q, dueR x (d - 1) = q := ⟨_, rfl⟩
      obtain ⟨s, hs⟩ : ∃ s, sumBy (incR d u) (l.take k) = s := ⟨_, rfl⟩
      rw [hp] at HD1 hd1 HI
      rw [hq] at HD2 hd2 HI
      rw [hs] at hsr HT ⊢
      have q1 : IntKind.i64.wrap (p - q) = p - q := wid (by omega)
      have q2 : IntKind.i64.wrap (s + (p - q)) = s + (p - q) := wid (by omega)
      have q3 : IntKind.i64.wrap (d - 1) = d - 1 := wid (by omega)
      clear hp hq hs hsr hlk hba hd1 hd2
      go_wp2_with fail
      try rw [hW0]
      clear hW0 hc0 hc1 hc2 hc3 hc4
      go_region_held3 (fun w' => (w'.cell? ⟨wr.heap.size, 0, none⟩ = some (.string x.fId) ∧ w'.cell? ⟨wr.heap.size, 1, none⟩ = some (.string x.fItem) ∧ w'.cell? ⟨wr.heap.size, 2, none⟩ = some (.int .i64 x.fDay) ∧ w'.cell? ⟨wr.heap.size, 3, none⟩ = some (.int .i64 x.fMonths) ∧ w'.cell? ⟨wr.heap.size, 4, none⟩ = some (.int .i64 x.fFee)) ∧ Below w1.heap.size w1 w')
        (first | exact ⟨⟨hx0, hx1, hx2, hx3, hx4⟩, hb0.drew⟩
               | (go_split_ands; exact ⟨⟨cell_later hb2 (by assumption), cell_later hb2 (by assumption), cell_later hb2 (by assumption), cell_later hb2 (by assumption), cell_later hb2 (by assumption)⟩, Below.trans (by assumption) (hb2.mono (Below.size (by assumption)))⟩))
        (first | (go_at_call 28; go_split_ands; first | (with_reducible show Calls Tryz.prog _ #[.agg #[.string x.fId, .string x.fItem, .int .i64 x.fDay, .int .i64 x.fMonths, .int .i64 x.fFee], .int .i64 u] _ _; refine (HD1.out _).mono ?_; rintro e w2 ⟨rfl, hb2⟩) | (with_reducible show Calls Tryz.prog _ #[.agg #[.string x.fId, .string x.fItem, .int .i64 x.fDay, .int .i64 x.fMonths, .int .i64 x.fFee], .int .i64 (d - 1)] _ _; refine (HD2.out _).mono ?_; rintro e w2 ⟨rfl, hb2⟩)))
      all_goals (
        rename_i hh
        obtain ⟨_, hbE⟩ := hh
        go_wp2
        first | (refine ⟨⟨k + 1, by omega, by go_num, by rw [HT.out, HI.out] <;> go_num, hbE⟩, ?_⟩; (simp [intOf]; omega)) | (go_roundw; (case rel => first | exact ⟨k + 1, by omega, by go_num, by rw [HT.out, HI.out] <;> go_num, hbE⟩ | ((try refine ⟨trivial, ?_⟩); (repeat apply Exists.intro); exact ⟨⟨k + 1, by omega, by go_num, by rw [HT.out, HI.out] <;> go_num, hbE⟩, rfl⟩)); (case measure => (simp [intOf]; omega))))
    · obtain rfl : k = n := by omega
      have E : Hid (sumBy (incR d u) (l.take k) = sumBy (incR d u) l) := Lib.hid (by rw [List.take_of_length_le (by have := Hl.out; omega)])
      rw [E.out]
      go_wp2
      go_ret2
      exact ⟨rfl, HB1.out.trans (hb.mono HB1.out.size)⟩
theorem s_l00Min (a b : Int) (w : World) : Calls Tryz.prog 47 #[.int .i64 a, .int .i64 b] w fun e w' => e = .returned (.int .i64 (min a b)) ∧ w = w' := by
  by_cases h : a < b
  · have E : Hid (min a b = a) := Lib.hid (by omega)
    go_enter Tryz.func47, Tryz.ntmps47
    go_wp2
    go_ret
    exact ⟨ret_int E.out.symm, rfl⟩
  · have E : Hid (min a b = b) := Lib.hid (by omega)
    go_enter Tryz.func47, Tryz.ntmps47
    go_wp2
    go_ret
    exact ⟨ret_int E.out.symm, rfl⟩
def cntR (x : DRental) (d : Int) : Int := if d < x.fDay then 0 else min x.fMonths ((d - x.fDay) / 30 + 1)
theorem dueR_cnt (x : DRental) (d : Int) : x.fFee * cntR x d = dueR x d := by
  unfold cntR dueR
  split
  · rw [Int.mul_zero]
  · rfl
theorem RB.cnt {x : DRental} (h : RB x) (d : Int) : 0 ≤ cntR x d ∧ cntR x d ≤ 12 := by
  have := h.m0; have := h.m1
  unfold cntR
  split <;> omega
set_option maxRecDepth 100000 in
set_option maxHeartbeats 4000000 in
theorem s_l21Due (b off : Nat) (x : DRental) (d : Int) (w : World) (hc : w.rangeAt b off (rentalE.cells x)) (h : RB x) (h0 : 0 ≤ d) (h1 : d ≤ 100000) :
    Calls Tryz.prog 33 #[.pointer (some ⟨b, off, none⟩), .int .i64 d] w fun e w' => e = .returned (.int .i64 (cntR x d)) ∧ Below w.heap.size w w' := by
  have d0 := h.d0; have d1 := h.d1; have m0 := h.m0; have m1 := h.m1
  have hc2 := hc 2 _ rfl
  have hc3 := hc 3 _ rfl
  by_cases hlt : d < x.fDay
  · have E : Hid (cntR x d = 0) := Lib.hid (by unfold cntR; rw [if_pos hlt])
    go_enter Tryz.func33, Tryz.ntmps33
    go_wp2
    go_ret
    exact ⟨ret_int E.out.symm, Below.refl _ _⟩
  · have E : Hid (cntR x d = min x.fMonths ((d - x.fDay) / 30 + 1)) := Lib.hid (by unfold cntR; rw [if_neg hlt])
    have q0 : IntKind.i64.wrap (d - x.fDay) = d - x.fDay := wid (by omega)
    have q1 : (d - x.fDay).tdiv 30 = (d - x.fDay) / 30 := Int.tdiv_eq_ediv_of_nonneg (by omega)
    obtain ⟨q, hq⟩ : ∃ q, (d - x.fDay) / 30 = q := ⟨_, rfl⟩
    have hq1 : 0 ≤ q ∧ q ≤ 100000 := by omega
    rw [hq] at q1 E
    have q2 : IntKind.i64.wrap q = q := wid (by omega)
    have q3 : IntKind.i64.wrap (q + 1) = q + 1 := wid (by omega)
    have hM := fun W => s_l00Min x.fMonths (q + 1) W
    clear hq hc
    go_enter Tryz.func33, Tryz.ntmps33
    go_wp2_with fail
    go_quiet ((go_at_call 47; with_reducible exact quiet_left (hM _)))
    go_wp2
    go_ret
    exact ⟨ret_int E.out.symm, below_drewN (Below.refl _ _) _⟩
set_option maxRecDepth 100000 in
set_option maxHeartbeats 4000000 in
theorem s_DueBy (x : DRental) (d : Int) (w : World) (hok : okRental x = true) (hs : x.fId.size ≤ maxLen ∧ x.fItem.size ≤ maxLen) (h : RB x) (h0 : 0 ≤ d) (h1 : d ≤ 100000) :
    Calls Tryz.prog 13 #[.agg #[.string x.fId, .string x.fItem, .int .i64 x.fDay, .int .i64 x.fMonths, .int .i64 x.fFee], .int .i64 d] w fun e w' => e = .returned (.tuple #[.int .i64 (dueR x d), .int .i64 0]) ∧ Below w.heap.size w w' := by
  have hM := fun W => s_l21Day d W
  rw [inB_true h0 h1] at hM
  have hcn := h.cnt d
  have f0 := h.f0; have f1 := h.f1
  have hR := range_new w #[.string x.fId, .string x.fItem, .int .i64 x.fDay, .int .i64 x.fMonths, .int .i64 x.fFee] 37
  have hb0 : Below w.heap.size w (w.alloc (.cells #[.string x.fId, .string x.fItem, .int .i64 x.fDay, .int .i64 x.fMonths, .int .i64 x.fFee] 37)) := (Below.refl _ _).alloc (Nat.le_refl _) _
  obtain ⟨W0, hW0⟩ : ∃ W0, w.alloc (.cells #[.string x.fId, .string x.fItem, .int .i64 x.fDay, .int .i64 x.fMonths, .int .i64 x.fFee] 37) = W0 := ⟨_, rfl⟩
  rw [hW0] at hR hb0
  have HR := Lib.hid (show W0.rangeAt w.heap.size 0 (rentalE.cells x) from hR)
  have HD : Hid (∀ W, Below W0.heap.size W0 W → Calls Tryz.prog 33 #[.pointer (some ⟨w.heap.size, 0, none⟩), .int .i64 d] W fun e w' => e = .returned (.int .i64 (cntR x d)) ∧ Below W.heap.size W w') := Lib.hid fun W hb => s_l21Due _ 0 x d W (range_below (B := 0) HR.out hb) h h0 h1
  have HE := Lib.hid (dueR_cnt x d)
  have hx4 := hR 4 _ rfl
  simp only [Nat.zero_add] at hx4
  obtain ⟨q, hq⟩ : ∃ q, cntR x d = q := ⟨_, rfl⟩
  rw [hq] at hcn HD HE
  have hpr : 0 ≤ x.fFee * q ∧ x.fFee * q ≤ 4900 * 12 := ⟨Int.mul_nonneg f0 hcn.1, Int.le_trans (Int.mul_le_mul_of_nonneg_right f1 hcn.1) (Int.mul_le_mul_of_nonneg_left hcn.2 (by omega))⟩
  have q1 : IntKind.i64.wrap (x.fFee * q) = x.fFee * q := wid (by omega)
  clear hR hq hpr
  go_enter Tryz.func13, Tryz.ntmps13
  go_wp2_with fail
  try rw [hW0]
  clear hW0
  refine (s_l21One _ 0 x W0 hs.1 hs.2 HR.out).mono ?_
  rintro e w1 ⟨rfl, hb1⟩
  replace hx4 := cell_later hb1 hx4
  have hbR := hb1
  clear hb1
  rw [hok]
  go_wp2_with fail
  refine (hM _).mono ?_
  rintro e w' ⟨rfl, rfl⟩
  clear hM
  go_wp2_with fail
  go_region_held3 (fun w' => w'.cell? ⟨w.heap.size, 4, none⟩ = some (.int .i64 x.fFee) ∧ Below W0.heap.size W0 w')
    (first | exact ⟨hx4, hbR.drew⟩
           | (go_split_ands; exact ⟨cell_later hb2 (by assumption), Below.trans (by assumption) (hb2.mono (Below.size (by assumption)))⟩))
    (first | (go_at_call 33; go_split_ands; refine (HD.out _ (by assumption)).mono ?_; rintro e w2 ⟨rfl, hb2⟩))
  rename_i hh
  obtain ⟨_, hbE⟩ := hh
  go_wp2
  go_ret2
  exact ⟨by rw [← HE.out]; rfl, hb0.trans (hbE.mono hb0.size)⟩
end Go.Proofs.YthfedegmplmgfaaGreatDoor
