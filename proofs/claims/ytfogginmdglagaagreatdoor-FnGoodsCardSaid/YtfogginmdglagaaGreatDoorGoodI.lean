/- Goods: the walks of the small functions. Printed by a program of mine. -/
import Derived.Test.YtfogginmdglagaaGreatDoorRows
import Derived.Test.YtfogginmdglagaaGreatDoorGoodLaw
import Derived.Test.YtfogginmdglagaaGreatDoorIReads
import Derived.Test.YtfogginmdglagaaGreatDoorTwo
import Derived.Deep.RegionHeld3
namespace Go.Proofs.YtfogginmdglagaaGreatDoor
set_option linter.unusedVariables false
set_option linter.unusedSimpArgs false
set_option linter.unusedSectionVars false
open Go.RowKit

theorem wid {n : Int} (h : -9223372036854775808 ≤ n ∧ n ≤ 9223372036854775807) : IntKind.i64.wrap n = n := by rw [IntKind.wrap_i64]; omega
theorem OkGoods.gb {l : List DGood} (h : OkGoods l) : ∀ x ∈ l, GB x := fun x hx => GB.of (h.ok x hx)
set_option maxRecDepth 100000 in
set_option maxHeartbeats 2000000 in
theorem i_missing (x : DGood) (w : World) (h : GB x) :
    Calls Tryz.prog 23 #[.agg #[.string x.fId, .int .i64 x.fCount, .int .i64 x.fLeast, .int .i64 x.fPrice]] w fun e w' => e = .returned (.int .i64 (missG x)) ∧ Below w.heap.size w w' := by
  have c0 := h.c0; have c1 := h.c1; have l0 := h.l0; have l1 := h.l1
  have hR := range_new w #[.string x.fId, .int .i64 x.fCount, .int .i64 x.fLeast, .int .i64 x.fPrice] 27
  have hb0 : Below w.heap.size w (w.alloc (.cells #[.string x.fId, .int .i64 x.fCount, .int .i64 x.fLeast, .int .i64 x.fPrice] 27)) := (Below.refl _ _).alloc (Nat.le_refl _) _
  go_enter Tryz.func23, Tryz.ntmps23
  go_wp2
  go_ret
  exact ⟨rfl, hb0⟩
set_option maxRecDepth 100000 in
set_option maxHeartbeats 2000000 in
theorem i_StockWorth (A : Option Addr) (n c : Nat) (l : List DGood) (w : World) (hr : Rd goodE w A n l) (hok : OkGoods l) :
    Calls Tryz.prog 7 #[.slice A n c] w fun e w' => e = .returned (.tuple #[.int .i64 (sumBy worthG l), .int .i64 0]) ∧ Below w.heap.size w w' := by
  have Hl := Lib.hid hr.1
  have hn : n ≤ 16 := by have := hok.few; have := hr.1; omega
  have HO := Lib.hid hok
  have hV := fun W hb => i_ValidGoods_yes A n c l W (hr.below hb) hok
  have HR := Lib.hid hr
  clear hok hr
  go_enter Tryz.func7, Tryz.ntmps7
  go_wp2_with fail
  refine (hV _ (Below.refl _ _)).mono ?_
  rintro e w1 ⟨rfl, hb1⟩
  have HB1 := Lib.hid hb1
  have HR1 := Lib.hid (HR.out.below hb1)
  clear hV hb1 HR
  go_wp2_with fail
  go_loopw [4, 12] (fun v i wr => ∃ k : Nat, k ≤ n ∧ i = .int .i64 k ∧ v = .int .i64 (sumBy worthG (l.take k)) ∧ Below w1.heap.size w1 wr) (fun _ i _ => n - (intOf i).toNat)
  case atStart => exact ⟨0, Nat.zero_le _, rfl, by simp [sumBy], Below.refl _ _⟩
  case round =>
    obtain ⟨k, hk, rfl, rfl, hb⟩ := hrel
    by_cases hlt : k < n
    · have hsr : 0 ≤ sumBy worthG (l.take k) ∧ sumBy worthG (l.take k) ≤ 1000000000000 * (l.take k).length := sumBy_range (f := worthG) fun y hy => (HO.out.gb y (List.mem_of_mem_take hy)).worth
      have hlk : (l.take k).length ≤ 16 := by have := Hl.out; rw [List.length_take]; omega
      obtain ⟨b, off, rfl, hcs⟩ := HR1.out.2 (by omega)
      obtain ⟨x, hx⟩ : ∃ x, l[k]? = some x := ⟨_, List.getElem?_eq_getElem (by have := Hl.out; omega)⟩
      have hcr := range_below (B := 0) (hcs k x hx) hb
      have hc0 := hcr 0 _ rfl
      have hc1 := hcr 1 _ rfl
      have hc2 := hcr 2 _ rfl
      have hc3 := hcr 3 _ rfl
      simp only [goodE, Nat.add_zero] at hc0 hc1 hc2 hc3
      have HG := Lib.hid (HO.out.gb x (mem_of_get hx))
      have HX := Lib.hid hx
      clear hcr hx hcs
      have hcx := range_new wr #[.string x.fId, .int .i64 x.fCount, .int .i64 x.fLeast, .int .i64 x.fPrice] 27
      have hba : Below wr.heap.size wr (wr.alloc (.cells #[.string x.fId, .int .i64 x.fCount, .int .i64 x.fLeast, .int .i64 x.fPrice] 27)) := (Below.refl _ _).alloc (Nat.le_refl _) _
      obtain ⟨W0, hW0⟩ : ∃ W0, wr.alloc (.cells #[.string x.fId, .int .i64 x.fCount, .int .i64 x.fLeast, .int .i64 x.fPrice] 27) = W0 := ⟨_, rfl⟩
      rw [hW0] at hcx hba
      have hb0 := hb.trans (hba.mono hb.size)
      have hx0 := hcx 0 _ rfl
      have hx1 := hcx 1 _ rfl
      have hx2 := hcx 2 _ rfl
      have hx3 := hcx 3 _ rfl
      simp only [Nat.zero_add] at hx0 hx1 hx2 hx3
      clear hcx
      have hw := HG.out.worth
      have HS := Lib.hid (sumBy_take (f := worthG) HX.out)
      have HWE : Hid (worthG x = x.fCount * x.fPrice) := Lib.hid rfl
      obtain ⟨s, hs⟩ : ∃ s, sumBy worthG (l.take k) = s := ⟨_, rfl⟩
      rw [hs] at hsr HS ⊢
      have hs1 : 0 ≤ s ∧ s ≤ 16000000000000 := by omega
      have q1 : IntKind.i64.wrap (x.fCount * x.fPrice) = x.fCount * x.fPrice := wid (by omega)
      have q2 : IntKind.i64.wrap (s + x.fCount * x.fPrice) = s + x.fCount * x.fPrice := wid (by omega)
      clear hs hsr hlk hba hw
      go_wp2
      first | (refine ⟨⟨k + 1, by omega, by go_num, by rw [HS.out, HWE.out] <;> go_num, (by first | exact hb0 | (rw [hW0]; exact hb0))⟩, ?_⟩; (simp [intOf]; omega)) | (go_roundw; (case rel => first | exact ⟨k + 1, by omega, by go_num, by rw [HS.out, HWE.out] <;> go_num, (by first | exact hb0 | (rw [hW0]; exact hb0))⟩ | ((try refine ⟨trivial, ?_⟩); (repeat apply Exists.intro); exact ⟨⟨k + 1, by omega, by go_num, by rw [HS.out, HWE.out] <;> go_num, (by first | exact hb0 | (rw [hW0]; exact hb0))⟩, rfl⟩)); (case measure => (simp [intOf]; omega)))
    · obtain rfl : k = n := by omega
      have E : Hid (sumBy worthG (l.take k) = sumBy worthG l) := Lib.hid (by rw [List.take_of_length_le (by have := Hl.out; omega)])
      rw [E.out]
      go_wp2
      go_ret2
      exact ⟨rfl, HB1.out.trans (hb.mono HB1.out.size)⟩
set_option maxRecDepth 100000 in
set_option maxHeartbeats 2000000 in
theorem i_LowGoods (A : Option Addr) (n c : Nat) (l : List DGood) (w : World) (hr : Rd goodE w A n l) (hok : OkGoods l) :
    Calls Tryz.prog 8 #[.slice A n c] w (RetLC strE 9 (lowIds l) 0 w) := by
  obtain ⟨i0, hi, hz0, hz1, hz2⟩ := info_parts Tryz.info_str
  have HZ := Lib.hid (And.intro hz1 hz2)
  clear hz1 hz2
  have Hl := Lib.hid hr.1
  have hn : n ≤ 16 := by have := hok.few; have := hr.1; omega
  have HO := Lib.hid hok
  have hV := fun W hb => i_ValidGoods_yes A n c l W (hr.below hb) hok
  have HR := Lib.hid hr
  clear hok hr
  go_enter Tryz.func8, Tryz.ntmps8
  go_wp2_with fail
  refine (hV _ (Below.refl _ _)).mono ?_
  rintro e w1 ⟨rfl, hb1⟩
  have HB1 := Lib.hid hb1
  have HR1 := Lib.hid (HR.out.below hb1)
  clear hV hb1 HR
  have HG0 : Hid (GL strE 9 w1.heap.size (w1.alloc (.cells #[] 9)) (.slice (some ⟨w1.heap.size, 0, none⟩) 0 0) []) := Lib.hid (GL.mk0 (Nat.le_refl _))
  have hbS : Below w1.heap.size w1 (w1.alloc (.cells #[] 9)) := (Below.refl _ _).alloc (Nat.le_refl _) _
  go_wp2_with fail
  go_loopw [4, 13] (fun v i wr => ∃ (k : Nat) (A' : Option Addr) (z c' : Nat), k ≤ n ∧ i = .int .i64 k ∧ v = .slice A' z c' ∧ z ≤ k ∧ Hid (GL strE 9 w1.heap.size wr (.slice A' z c') (lowIds (l.take k))) ∧ Below w1.heap.size w1 wr) (fun _ i _ => n - (intOf i).toNat)
  case atStart => exact ⟨0, _, 0, 0, Nat.zero_le _, rfl, rfl, by omega, Lib.hid (by simpa [lowIds] using HG0.out), hbS⟩
  case round =>
    obtain ⟨k, A', z, c', hk, rfl, rfl, hz, HGL, hb⟩ := hrel
    clear HG0 hbS
    by_cases hlt : k < n
    · skip
      obtain ⟨b, off, rfl, hcs⟩ := HR1.out.2 (by omega)
      obtain ⟨x, hx⟩ : ∃ x, l[k]? = some x := ⟨_, List.getElem?_eq_getElem (by have := Hl.out; omega)⟩
      have hcr := range_below (B := 0) (hcs k x hx) hb
      have hc0 := hcr 0 _ rfl
      have hc1 := hcr 1 _ rfl
      have hc2 := hcr 2 _ rfl
      have hc3 := hcr 3 _ rfl
      simp only [goodE, Nat.add_zero] at hc0 hc1 hc2 hc3
      have HG := Lib.hid (HO.out.gb x (mem_of_get hx))
      have HX := Lib.hid hx
      clear hcr hx hcs
      have hcx := range_new wr #[.string x.fId, .int .i64 x.fCount, .int .i64 x.fLeast, .int .i64 x.fPrice] 27
      have hba : Below wr.heap.size wr (wr.alloc (.cells #[.string x.fId, .int .i64 x.fCount, .int .i64 x.fLeast, .int .i64 x.fPrice] 27)) := (Below.refl _ _).alloc (Nat.le_refl _) _
      obtain ⟨W0, hW0⟩ : ∃ W0, wr.alloc (.cells #[.string x.fId, .int .i64 x.fCount, .int .i64 x.fLeast, .int .i64 x.fPrice] 27) = W0 := ⟨_, rfl⟩
      rw [hW0] at hcx hba
      have hb0 := hb.trans (hba.mono hb.size)
      have hx0 := hcx 0 _ rfl
      have hx1 := hcx 1 _ rfl
      have hx2 := hcx 2 _ rfl
      have hx3 := hcx 3 _ rfl
      simp only [Nat.zero_add] at hx0 hx1 hx2 hx3
      clear hcx
      have hM := fun W => i_missing x W HG.out
      have HGL0 := Lib.hid (HGL.out.below hba)
      have HS : Hid (lowIds (l.take (k + 1)) = lowIds (l.take k) ++ lowIds [x]) := Lib.hid (by rw [take_of_get HX.out, lowIds_app])
      obtain ⟨q, hq⟩ : ∃ q, missG x = q := ⟨_, rfl⟩
      rw [hq] at hM
      have HQ := Lib.hid hq
      clear hq HGL hba
      go_wp2_with fail
      try rw [hW0]
      clear hW0 hc0 hc1 hc2 hc3
      refine (hM _).mono ?_
      rintro e w2 ⟨rfl, hb2⟩
      replace hx0 := cell_later hb2 hx0
      replace hx1 := cell_later hb2 hx1
      replace hx2 := cell_later hb2 hx2
      replace hx3 := cell_later hb2 hx3
      replace hb0 := hb0.trans (hb2.mono hb0.size)
      have hgl := HGL0.out.below hb2
      clear hM hb2 HGL0
      by_cases hq0 : 0 < q
      · have HN : Hid (lowIds (l.take (k + 1)) = lowIds (l.take k) ++ [x.fId]) := Lib.hid (by rw [HS.out]; congr 1; unfold lowIds; simp [HQ.out, hq0])
        go_wp2_with (at_builtin; refine wpList_pushO strE rfl _ _ 31 rfl w1.heap.size 9 i0 _ 16 Tryz.underlying31 hi hz0 HZ.out.1 HZ.out.2 rfl A' z c' _ x.fId rfl (hgl.alloc _) w2.heap.size rfl (range_new _ _ _) (by omega) (by decide) (by have := hb0.size; simp; omega) ?_; intro A2 c2 w4 hgl4 ht4 _)
        have HG4 : Hid (GL strE 9 w1.heap.size w4 (.slice A2 (z + 1) c2) (lowIds (l.take (k + 1)))) := Lib.hid (by rw [HN.out]; exact hgl4)
        have hb4 : Below w1.heap.size w1 w4 := Below.touch (hb0.alloc hb0.size _) ht4 (fun q hq => (hgl.lt q hq).1) (by have := hb0.size; simp; omega)
        clear hgl hgl4 ht4
        go_wp2
        first | (refine ⟨⟨k + 1, A2, z + 1, c2, by omega, by go_num, rfl, by omega, HG4, hb4⟩, ?_⟩; (simp [intOf]; omega)) | (go_roundw; (case rel => first | exact ⟨k + 1, A2, z + 1, c2, by omega, by go_num, rfl, by omega, HG4, hb4⟩ | ((try refine ⟨trivial, ?_⟩); (repeat apply Exists.intro); exact ⟨⟨k + 1, A2, z + 1, c2, by omega, by go_num, rfl, by omega, HG4, hb4⟩, rfl⟩)); (case measure => (simp [intOf]; omega)))
      · have HN : Hid (GL strE 9 w1.heap.size w2 (.slice A' z c') (lowIds (l.take (k + 1)))) := Lib.hid (by rw [HS.out, show lowIds [x] = [] by unfold lowIds; simp [HQ.out, hq0], List.append_nil]; exact hgl)
        clear hgl
        go_wp2
        first | (refine ⟨⟨k + 1, A', z, c', by omega, by go_num, rfl, by omega, HN, hb0⟩, ?_⟩; (simp [intOf]; omega)) | (go_roundw; (case rel => first | exact ⟨k + 1, A', z, c', by omega, by go_num, rfl, by omega, HN, hb0⟩ | ((try refine ⟨trivial, ?_⟩); (repeat apply Exists.intro); exact ⟨⟨k + 1, A', z, c', by omega, by go_num, rfl, by omega, HN, hb0⟩, rfl⟩)); (case measure => (simp [intOf]; omega)))
    · obtain rfl : k = n := by omega
      have E : Hid (l.take k = l) := Lib.hid (List.take_of_length_le (by have := Hl.out; omega))
      rw [E.out] at HGL
      have hgl := HGL.out
      clear HGL
      go_wp2
      go_ret2
      have ho := (hgl.mono HB1.out.size).own
      exact ⟨A', z, c', ho.1, by omega, ho.2, rfl, HB1.out.trans (hb.mono HB1.out.size)⟩
/-- a list of numbers of the call's own, a number, a code -/
def RetLNC (l : List Int) (s code : Int) (w : World) (e : Ending) (w' : World) : Prop :=
  ∃ A n c, l.length = n ∧ w'.ownsRow w.heap.size 2 intE.k (.slice A n c) n (l.flatMap intE.cells) ∧ e = .returned (.tuple #[.slice A n c, .int .i64 s, .int .i64 code]) ∧ Below w.heap.size w w'
set_option maxRecDepth 100000 in
set_option maxHeartbeats 2000000 in
theorem i_ReorderOf (A : Option Addr) (n c : Nat) (l : List DGood) (w : World) (hr : Rd goodE w A n l) (hok : OkGoods l) :
    Calls Tryz.prog 9 #[.slice A n c] w (RetLNC (l.map missG) (sumBy costG l) 0 w) := by
  obtain ⟨i0, hi, hz0, hz1, hz2⟩ := info_parts Tryz.info_int
  have HZ := Lib.hid (And.intro hz1 hz2)
  clear hz1 hz2
  have Hl := Lib.hid hr.1
  have hn : n ≤ 16 := by have := hok.few; have := hr.1; omega
  have HO := Lib.hid hok
  have hV := fun W hb => i_ValidGoods_yes A n c l W (hr.below hb) hok
  have HR := Lib.hid hr
  clear hok hr
  go_enter Tryz.func9, Tryz.ntmps9
  go_wp2_with fail
  refine (hV _ (Below.refl _ _)).mono ?_
  rintro e w1 ⟨rfl, hb1⟩
  have HB1 := Lib.hid hb1
  have HR1 := Lib.hid (HR.out.below hb1)
  clear hV hb1 HR
  have HG0 : Hid (GL intE 2 w1.heap.size (w1.alloc (.cells #[] 2)) (.slice (some ⟨w1.heap.size, 0, none⟩) 0 0) []) := Lib.hid (GL.mk0 (Nat.le_refl _))
  have hbS : Below w1.heap.size w1 (w1.alloc (.cells #[] 2)) := (Below.refl _ _).alloc (Nat.le_refl _) _
  go_wp2_with fail
  go_loopw [5, 6, 15] (fun v s i wr => ∃ (k : Nat) (A' : Option Addr) (c' : Nat), k ≤ n ∧ i = .int .i64 k ∧ v = .slice A' k c' ∧ s = .int .i64 (sumBy costG (l.take k)) ∧ Hid (GL intE 2 w1.heap.size wr (.slice A' k c') ((l.take k).map missG)) ∧ Below w1.heap.size w1 wr) (fun _ _ i _ => n - (intOf i).toNat)
  case atStart => exact ⟨0, _, 0, Nat.zero_le _, rfl, rfl, by simp [sumBy], Lib.hid (by simpa using HG0.out), hbS⟩
  case round =>
    obtain ⟨k, A', c', hk, rfl, rfl, rfl, HGL, hb⟩ := hrel
    clear HG0 hbS
    by_cases hlt : k < n
    · have hsr : 0 ≤ sumBy costG (l.take k) ∧ sumBy costG (l.take k) ≤ 1000000000000 * (l.take k).length := sumBy_range (f := costG) fun y hy => (HO.out.gb y (List.mem_of_mem_take hy)).cost
      have hlk : (l.take k).length ≤ 16 := by have := Hl.out; rw [List.length_take]; omega
      obtain ⟨b, off, rfl, hcs⟩ := HR1.out.2 (by omega)
      obtain ⟨x, hx⟩ : ∃ x, l[k]? = some x := ⟨_, List.getElem?_eq_getElem (by have := Hl.out; omega)⟩
      have hcr := range_below (B := 0) (hcs k x hx) hb
      have hc0 := hcr 0 _ rfl
      have hc1 := hcr 1 _ rfl
      have hc2 := hcr 2 _ rfl
      have hc3 := hcr 3 _ rfl
      simp only [goodE, Nat.add_zero] at hc0 hc1 hc2 hc3
      have HG := Lib.hid (HO.out.gb x (mem_of_get hx))
      have HX := Lib.hid hx
      clear hcr hx hcs
      have hcx := range_new wr #[.string x.fId, .int .i64 x.fCount, .int .i64 x.fLeast, .int .i64 x.fPrice] 27
      have hba : Below wr.heap.size wr (wr.alloc (.cells #[.string x.fId, .int .i64 x.fCount, .int .i64 x.fLeast, .int .i64 x.fPrice] 27)) := (Below.refl _ _).alloc (Nat.le_refl _) _
      obtain ⟨W0, hW0⟩ : ∃ W0, wr.alloc (.cells #[.string x.fId, .int .i64 x.fCount, .int .i64 x.fLeast, .int .i64 x.fPrice] 27) = W0 := ⟨_, rfl⟩
      rw [hW0] at hcx hba
      have hb0 := hb.trans (hba.mono hb.size)
      have hx0 := hcx 0 _ rfl
      have hx1 := hcx 1 _ rfl
      have hx2 := hcx 2 _ rfl
      have hx3 := hcx 3 _ rfl
      simp only [Nat.zero_add] at hx0 hx1 hx2 hx3
      clear hcx
      have hM := fun W => i_missing x W HG.out
      have HFX : Hid (Value.ownBlock (.slice A' k c') = some wr.heap.size → False) := Lib.hid fun e => by have := (HGL.out.lt _ e).2; omega
      have HM : Hid (∀ W, Calls Tryz.prog 23 #[.agg #[.string x.fId, .int .i64 x.fCount, .int .i64 x.fLeast, .int .i64 x.fPrice]] W fun e w' => e = .returned (.int .i64 (missG x)) ∧ Below W.heap.size W w') := Lib.hid hM
      have HGL0 := Lib.hid (HGL.out.below hba)
      have HS : Hid ((l.take (k + 1)).map missG = (l.take k).map missG ++ [missG x]) := Lib.hid (by rw [take_of_get HX.out, List.map_append]; rfl)
      have HC := Lib.hid (sumBy_take (f := costG) HX.out)
      have hms := HG.out.miss
      have hcc := HG.out.cost
      have HCE : Hid (costG x = missG x * x.fPrice) := Lib.hid rfl
      obtain ⟨q, hq⟩ : ∃ q, missG x = q := ⟨_, rfl⟩
      rw [hq] at hM HM HS hms hcc HCE
      obtain ⟨s, hs⟩ : ∃ s, sumBy costG (l.take k) = s := ⟨_, rfl⟩
      rw [hs] at hsr HC ⊢
      have hs1 : 0 ≤ s ∧ s ≤ 16000000000000 := by omega
      clear hq HGL hba hs hsr hlk
      go_wp2_with fail
      try rw [hW0]
      clear hW0 hc0 hc1 hc2 hc3
      refine (hM _).mono ?_
      rintro e w2 ⟨rfl, hb2⟩
      replace hx0 := cell_later hb2 hx0
      replace hx1 := cell_later hb2 hx1
      replace hx2 := cell_later hb2 hx2
      replace hx3 := cell_later hb2 hx3
      replace hb0 := hb0.trans (hb2.mono hb0.size)
      have hgl := HGL0.out.below hb2
      clear hM hb2 HGL0
      go_wp2_with (at_builtin; refine wpList_pushO intE rfl _ _ 34 rfl w1.heap.size 2 i0 _ 8 Tryz.underlying34 hi hz0 HZ.out.1 HZ.out.2 rfl A' k c' _ q rfl (hgl.alloc _) w2.heap.size rfl (range_new _ _ _) (by omega) (by decide) (by have := hb0.size; simp; omega) ?_; intro A2 c2 w4 hgl4 ht4 _)
      have hbx : wr.heap.size < w2.heap.size := World.block_lt_of_cell? _ _ hx0
      have hFx : ¬ Value.ownBlock (.slice A' k c') = some wr.heap.size := fun e => by have := HFX.out e; omega
      have hbw : Below w2.heap.size w2 (w2.alloc (.cells #[.int .i64 q] 2)) := (Below.refl _ _).alloc (Nat.le_refl _) _
      replace hx0 := cell_later hbw hx0
      replace hx1 := cell_later hbw hx1
      replace hx2 := cell_later hbw hx2
      replace hx3 := cell_later hbw hx3
      replace hx0 := touch_cell ht4 hFx hx0
      replace hx1 := touch_cell ht4 hFx hx1
      replace hx2 := touch_cell ht4 hFx hx2
      replace hx3 := touch_cell ht4 hFx hx3
      have HG4 : Hid (GL intE 2 w1.heap.size w4 (.slice A2 (k + 1) c2) ((l.take (k + 1)).map missG)) := Lib.hid (by rw [HS.out]; exact hgl4)
      have hb4 : Below w1.heap.size w1 w4 := Below.touch (hb0.alloc hb0.size _) ht4 (fun q hq => (hgl.lt q hq).1) (by have := hb0.size; simp; omega)
      have q1 : IntKind.i64.wrap (q * x.fPrice) = q * x.fPrice := wid (by omega)
      have q2 : IntKind.i64.wrap (s + q * x.fPrice) = s + q * x.fPrice := wid (by omega)
      clear hgl hgl4 ht4 hbw hFx hbx HFX
      go_wp2_with fail
      go_region_held3 (fun w' => (w'.cell? ⟨wr.heap.size, 0, none⟩ = some (.string x.fId) ∧ w'.cell? ⟨wr.heap.size, 1, none⟩ = some (.int .i64 x.fCount) ∧ w'.cell? ⟨wr.heap.size, 2, none⟩ = some (.int .i64 x.fLeast) ∧ w'.cell? ⟨wr.heap.size, 3, none⟩ = some (.int .i64 x.fPrice)) ∧ Hid (GL intE 2 w1.heap.size w' (.slice A2 (k + 1) c2) ((l.take (k + 1)).map missG)) ∧ Below w1.heap.size w1 w')
        (first | exact ⟨⟨hx0, hx1, hx2, hx3⟩, Lib.hid HG4.out.drew, hb4.drew⟩
               | (go_split_ands; exact ⟨⟨cell_later hb2 (by assumption), cell_later hb2 (by assumption), cell_later hb2 (by assumption), cell_later hb2 (by assumption)⟩, Lib.hid (GL.below (Hid.out (by assumption)) hb2), Below.trans (by assumption) (hb2.mono (Below.size (by assumption)))⟩))
        (first | (go_at_call 23; go_split_ands; refine (HM.out _).mono ?_; rintro e w2 ⟨rfl, hb2⟩))
      rename_i hh
      obtain ⟨_, HG5, hbE⟩ := hh
      go_wp2
      first | (refine ⟨⟨k + 1, A2, c2, by omega, by go_num, rfl, by rw [HC.out, HCE.out] <;> go_num, HG5, hbE⟩, ?_⟩; (simp [intOf]; omega)) | (go_roundw; (case rel => first | exact ⟨k + 1, A2, c2, by omega, by go_num, rfl, by rw [HC.out, HCE.out] <;> go_num, HG5, hbE⟩ | ((try refine ⟨trivial, ?_⟩); (repeat apply Exists.intro); exact ⟨⟨k + 1, A2, c2, by omega, by go_num, rfl, by rw [HC.out, HCE.out] <;> go_num, HG5, hbE⟩, rfl⟩)); (case measure => (simp [intOf]; omega)))
    · obtain rfl : k = n := by omega
      have E : Hid (l.take k = l) := Lib.hid (List.take_of_length_le (by have := Hl.out; omega))
      rw [E.out] at HGL ⊢
      have hgl := HGL.out
      clear HGL
      go_wp2
      go_ret3
      have ho := (hgl.mono HB1.out.size).own
      exact ⟨A', k, c', ho.1, ho.2, rfl, HB1.out.trans (hb.mono HB1.out.size)⟩
end Go.Proofs.YtfogginmdglagaaGreatDoor
