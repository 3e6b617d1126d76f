/- Rentals: clashes, one made longer, the first free day. Printed by a program of mine. -/
import Derived.Test.YthfedegmplmgfaaGreatDoorRows
import Derived.Test.YthfedegmplmgfaaGreatDoorRentI
import Derived.Test.YthfedegmplmgfaaGreatDoorSlI
import Derived.Test.YthfedegmplmgfaaGreatDoorSlRental
import Derived.Test.YthfedegmplmgfaaGreatDoorNames
namespace Go.Proofs.YthfedegmplmgfaaGreatDoor
set_option linter.unusedVariables false
set_option linter.unusedSimpArgs false
set_option linter.unusedSectionVars false
open Go.RowKit

theorem flat_set1 {α : Type} (E : Enc α) {l : List α} {p j : Nat} {x x' : α} {v : Value} (hx : l[p]? = some x) (h : E.cells x' = (E.cells x).set j v) (hj : j < E.k) : (l.flatMap E.cells).set (p * E.k + j) v = (l.set p x').flatMap E.cells := by
  have hp := (List.getElem?_eq_some_iff.1 hx).1
  have h1 : l = l.take p ++ (x :: l.drop (p + 1)) := by rw [← drop_of_get hx, List.take_append_drop]
  have h2 : l.set p x' = l.take p ++ (x' :: l.drop (p + 1)) := by rw [List.set_eq_take_append_cons_drop, if_pos hp]
  have hl : ((l.take p).flatMap E.cells).length = p * E.k := by rw [flat_len, List.length_take, Nat.min_eq_left (by omega)]
  rw [h2]
  conv => lhs; rw [h1]
  simp only [List.flatMap_append, List.flatMap_cons]
  rw [List.set_append_right _ _ (by rw [hl]; omega), hl, Nat.add_sub_cancel_left, List.set_append_left _ _ (by rw [E.len]; exact hj), h]
theorem GL.set1 {α : Type} {E : Enc α} {et : TypeId} {base g n c p j : Nat} {w : World} {l : List α} {x x' : α} {v : Value} (hg : GL E et base w (.slice (some ⟨g, 0, none⟩) n c) l) (hx : l[p]? = some x) (h : E.cells x' = (E.cells x).set j v) (hj : j < E.k) :
    GL E et base (w.setCell ⟨g, p * E.k + j, none⟩ v) (.slice (some ⟨g, 0, none⟩) n c) (l.set p x') := by
  have h1 := (World.ownsRow.stored hg.own.2 (p * E.k + j) v).1
  rw [flat_set1 E hx h hj] at h1
  unfold GL
  rw [List.length_set, hg.own.1]
  exact h1
theorem GL.range0 {base : Nat} {w : World} {g n c p : Nat} {l : List DRental} {x : DRental} (hg : GL rentalE 37 base w (.slice (some ⟨g, 0, none⟩) n c) l) (hx : l[p]? = some x) : w.rangeAt g (p * 5) (rentalE.cells x) := fun j v hv => by
  have h := hg.range p
  rw [drop_of_get hx] at h
  refine h j v ?_
  rw [List.flatMap_cons, List.getElem?_append_left (List.getElem?_eq_some_iff.1 hv).1]
  exact hv
def RetRows (L : List (List Int)) (w : World) (e : Ending) (w' : World) : Prop :=
  ∃ A z c ps, L.length = z ∧ z ≤ 1000 ∧ Rd slIE w' A z ps ∧ RowsI w.heap.size w' (.slice A z c) ps L ∧ e = .returned (.tuple #[.slice A z c, .int .i64 0]) ∧ Below w.heap.size w w'
set_option maxRecDepth 100000 in
set_option maxHeartbeats 4000000 in
theorem i_ClashesOf (A : Option Addr) (n c : Nat) (l : List DRental) (w : World) (hr : Rd rentalE w A n l) (hok : OkRentals l) (hsm : ∀ x ∈ l, RB x) :
    Calls Tryz.prog 8 #[.slice A n c] w (RetRows (allTo l l.length) w) := by
  obtain ⟨i0, hi, hz0, hz1, hz2⟩ := info_parts Tryz.info_slI
  have HZ := Lib.hid (And.intro hz1 hz2)
  clear hz1 hz2
  have Hl := Lib.hid hr.1
  have hn : n ≤ 12 := by have := hok.few; have := hr.1; omega
  have HO := Lib.hid hok
  have HS := Lib.hid hsm
  have hV := fun W hb => i_ValidRentals_yes A n c l W (hr.below hb) hok
  have HR := Lib.hid hr
  clear hok hr hsm
  go_enter Tryz.func8, Tryz.ntmps8
  go_wp2_with fail
  refine (hV _ (Below.refl _ _)).mono ?_
  rintro e w1 ⟨rfl, hb1⟩
  have HB1 := Lib.hid hb1
  have HR1 := Lib.hid (HR.out.below hb1)
  clear hV hb1 HR
  have HG0 : Hid (GL slIE 44 w1.heap.size (w1.alloc (.cells #[] 44)) (.slice (some ⟨w1.heap.size, 0, none⟩) 0 0) []) := Lib.hid (GL.mk0 (Nat.le_refl _))
  have hbS : Below w1.heap.size w1 (w1.alloc (.cells #[] 44)) := (Below.refl _ _).alloc (Nat.le_refl _) _
  go_wp2_with fail
  go_loopw [4, 14] (fun v i wr => ∃ (k : Nat) (A' : Option Addr) (z c' : Nat) (ps : List SlI), k ≤ n ∧ i = .int .i64 k ∧ v = .slice A' z c' ∧ Hid (GL slIE 44 w1.heap.size wr (.slice A' z c') ps) ∧ Hid (RowsI w1.heap.size wr (.slice A' z c') ps (allTo l k)) ∧ Below w1.heap.size w1 wr) (fun _ i _ => n - (intOf i).toNat)
  case atStart => exact ⟨0, _, 0, 0, [], Nat.zero_le _, rfl, rfl, HG0, Lib.hid RowsI.nil, hbS⟩
  case round =>
    obtain ⟨k, A', z, c', ps, hk, rfl, rfl, HGL, HRW, hb⟩ := hrel
    clear HG0 hbS
    by_cases hlt : k < n
    · skip
      obtain ⟨b, off, rfl, hcs⟩ := HR1.out.2 (by omega)
      obtain ⟨x, hx⟩ : ∃ x, l[k]? = some x := ⟨_, List.getElem?_eq_getElem (by have := Hl.out; omega)⟩
      have hcr := range_below (B := 0) (hcs k x hx) hb
      have hc0 := hcr 0 _ rfl
      have hc1 := hcr 1 _ rfl
      have hc2 := hcr 2 _ rfl
      have hc3 := hcr 3 _ rfl
      have hc4 := hcr 4 _ rfl
      simp only [rentalE, Nat.add_zero] at hc0 hc1 hc2 hc3 hc4
      have HG := Lib.hid (HS.out x (mem_of_get hx))
      have HX := Lib.hid hx
      have HCS := Lib.hid hcs
      clear hcr hx hcs
      have hcx := range_new wr #[.string x.fId, .string x.fItem, .int .i64 x.fDay, .int .i64 x.fMonths, .int .i64 x.fFee] 37
      have hba : Below wr.heap.size wr (wr.alloc (.cells #[.string x.fId, .string x.fItem, .int .i64 x.fDay, .int .i64 x.fMonths, .int .i64 x.fFee] 37)) := (Below.refl _ _).alloc (Nat.le_refl _) _
      obtain ⟨W0, hW0⟩ : ∃ W0, wr.alloc (.cells #[.string x.fId, .string x.fItem, .int .i64 x.fDay, .int .i64 x.fMonths, .int .i64 x.fFee] 37) = W0 := ⟨_, rfl⟩
      rw [hW0] at hcx hba
      have hb0 := hb.trans (hba.mono hb.size)
      have hx0 := hcx 0 _ rfl
      have hx1 := hcx 1 _ rfl
      have hx2 := hcx 2 _ rfl
      have hx3 := hcx 3 _ rfl
      have hx4 := hcx 4 _ rfl
      simp only [Nat.zero_add] at hx0 hx1 hx2 hx3 hx4
      clear hcx
      have HGL0 := Lib.hid (HGL.out.below hba)
      have HRW0 : Hid (RowsI w1.heap.size W0 (.slice A' z c') ps (allTo l k ++ rowTo l x k (k + 1))) := Lib.hid (by rw [rowTo_low (k + 1) (Nat.le_refl _), List.append_nil]; exact HRW.out.below hba)
      have hbxl : wr.heap.size < W0.heap.size := World.block_lt_of_cell? _ _ hx0
      have HNX0 : Hid (Value.ownBlock (.slice A' z c') ≠ some wr.heap.size) := Lib.hid fun e => by have := (HGL.out.lt _ e).2; omega
      clear hba HGL HRW
      go_wp2_with fail
      try rw [hW0]
      clear hW0 hc0 hc1 hc2 hc3 hc4
      obtain ⟨bx, hbx⟩ : ∃ bx, wr.heap.size = bx := ⟨_, rfl⟩
      rw [hbx] at hx0 hx1 hx2 hx3 hx4 hbxl HNX0 ⊢
      clear hbx hb
      obtain ⟨wi, hwi⟩ : ∃ wi : World, wi = W0 := ⟨_, rfl⟩
      subst hwi
      have HXi : Hid (wi.cell? ⟨bx, 0, none⟩ = some (.string x.fId) ∧ wi.cell? ⟨bx, 1, none⟩ = some (.string x.fItem) ∧ wi.cell? ⟨bx, 2, none⟩ = some (.int .i64 x.fDay) ∧ wi.cell? ⟨bx, 3, none⟩ = some (.int .i64 x.fMonths) ∧ wi.cell? ⟨bx, 4, none⟩ = some (.int .i64 x.fFee)) := Lib.hid ⟨hx0, hx1, hx2, hx3, hx4⟩
      have HNX : Hid (Value.ownBlock (.slice A' z c') ≠ some bx) := Lib.hid fun e => HNX0.out (e.trans (congrArg some rfl))
      have HFX : Hid (∀ q, Value.ownBlock (.slice A' z c') = some q → q < wi.heap.size) := Lib.hid fun q hq => (HGL0.out.lt q hq).2
      clear hx0 hx1 hx2 hx3 hx4
      go_loopw [4, 7] (fun v i wr => ∃ (j : Nat) (A' : Option Addr) (z c' : Nat) (ps : List SlI), k < j ∧ j ≤ n ∧ i = .int .i64 j ∧ v = .slice A' z c' ∧ Hid (GL slIE 44 w1.heap.size wr (.slice A' z c') ps) ∧ Hid (RowsI w1.heap.size wr (.slice A' z c') ps (allTo l k ++ rowTo l x k j)) ∧ Hid (wr.cell? ⟨bx, 0, none⟩ = some (.string x.fId) ∧ wr.cell? ⟨bx, 1, none⟩ = some (.string x.fItem) ∧ wr.cell? ⟨bx, 2, none⟩ = some (.int .i64 x.fDay) ∧ wr.cell? ⟨bx, 3, none⟩ = some (.int .i64 x.fMonths) ∧ wr.cell? ⟨bx, 4, none⟩ = some (.int .i64 x.fFee)) ∧ Hid (Value.ownBlock (.slice A' z c') ≠ some bx) ∧ Below w1.heap.size w1 wr) (fun _ i _ => n - (intOf i).toNat)
      case atStart => exact ⟨k + 1, A', z, c', ps, by omega, by omega, by go_num, rfl, HGL0, HRW0, HXi, HNX, hb0⟩
      case round =>
        obtain ⟨j, A2, z2, c2, qs, hkj, hj, rfl, rfl, HG2, HR2, HX2, HN2, hbi⟩ := hrel
        clear HGL0 HRW0 HXi HNX HFX
        obtain ⟨hx0, hx1, hx2, hx3, hx4⟩ := HX2.out
        by_cases hjn : j < n
        · obtain ⟨y, hy⟩ : ∃ y, l[j]? = some y := ⟨_, List.getElem?_eq_getElem (by have := Hl.out; omega)⟩
          have hcr := range_below (B := 0) (HCS.out j y hy) hbi
          have hy0 := hcr 0 _ rfl
          have hy1 := hcr 1 _ rfl
          have hy2 := hcr 2 _ rfl
          have hy3 := hcr 3 _ rfl
          have hy4 := hcr 4 _ rfl
          simp only [rentalE, Nat.add_zero] at hy0 hy1 hy2 hy3 hy4
          have hYG := HS.out y (mem_of_get hy)
          have HC : Hid (∀ W, Calls Tryz.prog 27 #[.agg #[.string x.fId, .string x.fItem, .int .i64 x.fDay, .int .i64 x.fMonths, .int .i64 x.fFee], .agg #[.string y.fId, .string y.fItem, .int .i64 y.fDay, .int .i64 y.fMonths, .int .i64 y.fFee]] W (RetB (clashR x y) W)) := Lib.hid fun W => i_clashes x y W HG.out ⟨hYG.d0, by have := hYG.d1; omega⟩ ⟨by have := hYG.m0; omega, by have := hYG.m1; omega⟩
          have HT := Lib.hid (rowTo_succ (x := x) hy hkj)
          have hbR := Below.refl wr.heap.size wr
          clear hcr hy hYG
          rcases hcl : clashR x y with _ | _
          · rw [hcl] at HC HT
            have HT2 : Hid (rowTo l x k (j + 1) = rowTo l x k j) := Lib.hid (by rw [HT.out, if_neg (by simp), List.append_nil])
            rw [← HT2.out] at HR2
            clear hcl HT
            go_wp2_with fail
            go_region_held3 (fun w' => (w'.cell? ⟨bx, 0, none⟩ = some (.string x.fId) ∧ w'.cell? ⟨bx, 1, none⟩ = some (.string x.fItem) ∧ w'.cell? ⟨bx, 2, none⟩ = some (.int .i64 x.fDay) ∧ w'.cell? ⟨bx, 3, none⟩ = some (.int .i64 x.fMonths) ∧ w'.cell? ⟨bx, 4, none⟩ = some (.int .i64 x.fFee)) ∧ (w'.cell? ⟨b, off + j * 5, none⟩ = some (.string y.fId) ∧ w'.cell? ⟨b, off + j * 5 + 1, none⟩ = some (.string y.fItem) ∧ w'.cell? ⟨b, off + j * 5 + 2, none⟩ = some (.int .i64 y.fDay) ∧ w'.cell? ⟨b, off + j * 5 + 3, none⟩ = some (.int .i64 y.fMonths) ∧ w'.cell? ⟨b, off + j * 5 + 4, none⟩ = some (.int .i64 y.fFee)) ∧ Below wr.heap.size wr w')
              (first | exact ⟨⟨hx0, hx1, hx2, hx3, hx4⟩, ⟨hy0, hy1, hy2, hy3, hy4⟩, hbR.drew⟩
                     | (go_split_ands; exact ⟨⟨cell_later hb2 (by assumption), cell_later hb2 (by assumption), cell_later hb2 (by assumption), cell_later hb2 (by assumption), cell_later hb2 (by assumption)⟩, ⟨cell_later hb2 (by assumption), cell_later hb2 (by assumption), cell_later hb2 (by assumption), cell_later hb2 (by assumption), cell_later hb2 (by assumption)⟩, Below.trans (by assumption) (hb2.mono (Below.size (by assumption)))⟩))
              (first | (go_at_call 27; go_split_ands; refine (HC.out _).mono ?_; rintro e w2 ⟨rfl, hb2⟩))
            all_goals (
              rename_i hh
              obtain ⟨⟨hz0, hz1, hz2, hz3, hz4⟩, _, hbE⟩ := hh
              have HG3 := Lib.hid (HG2.out.below hbE)
              have HR3 := Lib.hid (HR2.out.below hbE)
              have HX3 := Lib.hid (And.intro hz0 (And.intro hz1 (And.intro hz2 (And.intro hz3 hz4))))
              have hbN := hbi.trans (hbE.mono hbi.size)
              go_wp2
              first | (refine ⟨⟨j + 1, A2, z2, c2, qs, by omega, by omega, by go_num, rfl, HG3, HR3, HX3, HN2, hbN⟩, ?_⟩; (simp [intOf]; omega)) | (go_roundw; (case rel => first | exact ⟨j + 1, A2, z2, c2, qs, by omega, by omega, by go_num, rfl, HG3, HR3, HX3, HN2, hbN⟩ | ((try refine ⟨trivial, ?_⟩); (repeat apply Exists.intro); exact ⟨⟨j + 1, A2, z2, c2, qs, by omega, by omega, by go_num, rfl, HG3, HR3, HX3, HN2, hbN⟩, rfl⟩)); (case measure => (simp [intOf]; omega))))
          · rw [hcl] at HC HT
            have HT2 : Hid (rowTo l x k (j + 1) = rowTo l x k j ++ [[(k : Int), (j : Int)]]) := Lib.hid (by rw [HT.out, if_pos rfl])
            clear hcl HT
            go_wp2_with fail
            go_region_held3 (fun w' => (w'.cell? ⟨bx, 0, none⟩ = some (.string x.fId) ∧ w'.cell? ⟨bx, 1, none⟩ = some (.string x.fItem) ∧ w'.cell? ⟨bx, 2, none⟩ = some (.int .i64 x.fDay) ∧ w'.cell? ⟨bx, 3, none⟩ = some (.int .i64 x.fMonths) ∧ w'.cell? ⟨bx, 4, none⟩ = some (.int .i64 x.fFee)) ∧ (w'.cell? ⟨b, off + j * 5, none⟩ = some (.string y.fId) ∧ w'.cell? ⟨b, off + j * 5 + 1, none⟩ = some (.string y.fItem) ∧ w'.cell? ⟨b, off + j * 5 + 2, none⟩ = some (.int .i64 y.fDay) ∧ w'.cell? ⟨b, off + j * 5 + 3, none⟩ = some (.int .i64 y.fMonths) ∧ w'.cell? ⟨b, off + j * 5 + 4, none⟩ = some (.int .i64 y.fFee)) ∧ Below wr.heap.size wr w')
              (first | exact ⟨⟨hx0, hx1, hx2, hx3, hx4⟩, ⟨hy0, hy1, hy2, hy3, hy4⟩, hbR.drew⟩
                     | (go_split_ands; exact ⟨⟨cell_later hb2 (by assumption), cell_later hb2 (by assumption), cell_later hb2 (by assumption), cell_later hb2 (by assumption), cell_later hb2 (by assumption)⟩, ⟨cell_later hb2 (by assumption), cell_later hb2 (by assumption), cell_later hb2 (by assumption), cell_later hb2 (by assumption), cell_later hb2 (by assumption)⟩, Below.trans (by assumption) (hb2.mono (Below.size (by assumption)))⟩))
              (first | (go_at_call 27; go_split_ands; refine (HC.out _).mono ?_; rintro e w2 ⟨rfl, hb2⟩))
            rename_i w2 hh
            obtain ⟨⟨hz0', hz1', hz2', hz3', hz4'⟩, _, hbE⟩ := hh
            have hgl := HG2.out.below hbE
            have hrw := HR2.out.below hbE
            have hbN := hbi.trans (hbE.mono hbi.size)
            have hzl : z2 ≤ 200 := by
              have h1 := hgl.len
              have h2 := hrw.len
              rw [List.length_append] at h2
              have h3 := allTo_len (l := l) k
              have h4 := rowTo_len (l := l) (x := x) (i := k) (k := j)
              have h5 := Hl.out
              have h6 : k * l.length ≤ 12 * 12 := Nat.mul_le_mul (by omega) (by omega)
              omega
            clear HG2 HR2 hy0 hy1 hy2 hy3 hy4 hx0 hx1 hx2 hx3 hx4
            go_wp2_with (at_builtin; refine wpList_pushO slIE rfl _ _ 30 rfl w1.heap.size 44 i0 _ 24 Tryz.underlying30 hi hz0 HZ.out.1 HZ.out.2 rfl A2 z2 c2 qs ⟨some ⟨w2.heap.size, 0, none⟩, 2, 2⟩ rfl ((hgl.alloc _).alloc _) (w2.heap.size + 1) rfl (range_new' _ _ _ (by simp)) (by omega) (by decide) (by have := hbN.size; simp; omega) ?_; intro A3 c3 w4 hgl4 ht4 hn4)
            have hal := range_new w2 #[.int .i64 (k : Int), .int .i64 (j : Int)] 2
            have hb5 : Below w2.heap.size w2 ((w2.alloc (.cells #[.int .i64 (k : Int), .int .i64 (j : Int)] 2)).alloc (.cells #[.slice (some ⟨w2.heap.size, 0, none⟩) 2 2] 44)) := ((Below.refl _ _).alloc (Nat.le_refl _) _).alloc (by simp) _
            have hal2 := range_below (B := 0) hal ((Below.refl _ _).alloc (Nat.le_refl _) (.cells #[.slice (some ⟨w2.heap.size, 0, none⟩) 2 2] 44))
            have hown : ∀ q, Value.ownBlock (.slice A2 z2 c2) = some q → q < w2.heap.size := fun q hq => (hgl.lt q hq).2
            have HG4 := Lib.hid hgl4
            have HR4 : Hid (RowsI w1.heap.size w4 (.slice A3 (z2 + 1) c3) (qs ++ [⟨some ⟨w2.heap.size, 0, none⟩, 2, 2⟩]) (allTo l k ++ rowTo l x k (j + 1))) := Lib.hid (by
              rw [HT2.out, ← List.append_assoc]
              exact (hrw.below hb5).push (l := [(k : Int), (j : Int)]) hal2 (by simp; omega) hbN.size (fun e => by have := hown _ e; omega) ht4 hn4)
            have hbx2 : bx < w2.heap.size := World.block_lt_of_cell? _ _ hz0'
            have HX4 : Hid (w4.cell? ⟨bx, 0, none⟩ = some (.string x.fId) ∧ w4.cell? ⟨bx, 1, none⟩ = some (.string x.fItem) ∧ w4.cell? ⟨bx, 2, none⟩ = some (.int .i64 x.fDay) ∧ w4.cell? ⟨bx, 3, none⟩ = some (.int .i64 x.fMonths) ∧ w4.cell? ⟨bx, 4, none⟩ = some (.int .i64 x.fFee)) := Lib.hid ⟨touch_cell ht4 HN2.out (cell_later hb5 hz0'), touch_cell ht4 HN2.out (cell_later hb5 hz1'), touch_cell ht4 HN2.out (cell_later hb5 hz2'), touch_cell ht4 HN2.out (cell_later hb5 hz3'), touch_cell ht4 HN2.out (cell_later hb5 hz4')⟩
            have HN4 : Hid (Value.ownBlock (.slice A3 (z2 + 1) c3) ≠ some bx) := Lib.hid fun e => by
              rcases hn4 _ e with h | h
              · exact HN2.out h
              · have h2 : w2.heap.size + 2 ≤ bx := by simpa using h
                omega
            have hb4 : Below w1.heap.size w1 w4 := Below.touch (hbN.trans (hb5.mono hbN.size)) ht4 (fun q hq => (hgl.lt q hq).1) (by have := hbN.size; simp; omega)
            clear hgl hgl4 ht4 hn4 hal hal2 hb5 hown
            go_wp2
            first | (refine ⟨⟨j + 1, A3, z2 + 1, c3, qs ++ [⟨some ⟨w2.heap.size, 0, none⟩, 2, 2⟩], by omega, by omega, by go_num, rfl, HG4, HR4, HX4, HN4, hb4⟩, ?_⟩; (simp [intOf]; omega)) | (go_roundw; (case rel => first | exact ⟨j + 1, A3, z2 + 1, c3, qs ++ [⟨some ⟨w2.heap.size, 0, none⟩, 2, 2⟩], by omega, by omega, by go_num, rfl, HG4, HR4, HX4, HN4, hb4⟩ | ((try refine ⟨trivial, ?_⟩); (repeat apply Exists.intro); exact ⟨⟨j + 1, A3, z2 + 1, c3, qs ++ [⟨some ⟨w2.heap.size, 0, none⟩, 2, 2⟩], by omega, by omega, by go_num, rfl, HG4, HR4, HX4, HN4, hb4⟩, rfl⟩)); (case measure => (simp [intOf]; omega)))
        · obtain rfl : n = j := by omega
          have HR3 : Hid (RowsI w1.heap.size wr (.slice A2 z2 c2) qs (allTo l (k + 1))) := Lib.hid (by rw [allTo_succ HX.out]; rw [show l.length = n from Hl.out]; exact HR2.out)
          clear HR2 HX2 HN2 hx0 hx1 hx2 hx3 hx4
          go_wp2
          first | (refine ⟨⟨k + 1, A2, z2, c2, qs, by omega, by go_num, rfl, HG2, HR3, hbi⟩, ?_⟩; (simp [intOf]; omega)) | (go_roundw; (case rel => first | exact ⟨k + 1, A2, z2, c2, qs, by omega, by go_num, rfl, HG2, HR3, hbi⟩ | ((try refine ⟨trivial, ?_⟩); (repeat apply Exists.intro); exact ⟨⟨k + 1, A2, z2, c2, qs, by omega, by go_num, rfl, HG2, HR3, hbi⟩, rfl⟩)); (case measure => (simp [intOf]; omega)))
    · obtain rfl : n = k := by omega
      have E : Hid (allTo l n = allTo l l.length) := Lib.hid (by rw [Hl.out])
      rw [E.out] at HRW
      have hgl := HGL.out
      have hrw := HRW.out
      have h3 := allTo_len (l := l) l.length
      have h5 := Hl.out
      have h6 : l.length * l.length ≤ 12 * 12 := Nat.mul_le_mul (by omega) (by omega)
      have h1 := hgl.len
      have h2 := hrw.len
      clear HGL HRW
      go_wp2
      go_ret2
      exact ⟨A', z, c', ps, by omega, by omega, hgl.rd, ⟨hrw.len, fun k p m hp hm => by obtain ⟨g, e1, e2, e3, e4, e5⟩ := hrw.row k p m hp hm; exact ⟨g, e1, e2, e3, Nat.le_trans HB1.out.size e4, e5⟩⟩, rfl, HB1.out.trans (hb.mono HB1.out.size)⟩
end Go.Proofs.YthfedegmplmgfaaGreatDoor
