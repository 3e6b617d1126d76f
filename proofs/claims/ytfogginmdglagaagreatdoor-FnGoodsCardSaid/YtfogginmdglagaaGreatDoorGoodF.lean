/- Goods: one is found, put, pieces are taken. Printed by a program of mine. -/
import Derived.Test.YtfogginmdglagaaGreatDoorRows
import Derived.Test.YtfogginmdglagaaGreatDoorGoodI
import Derived.Test.YtfogginmdglagaaGreatDoorGoodPos
import Derived.Test.YtfogginmdglagaaGreatDoorSlGood
import Derived.Test.YtfogginmdglagaaGreatDoorRes
namespace Go.Proofs.YtfogginmdglagaaGreatDoor
set_option linter.unusedVariables false
set_option linter.unusedSimpArgs false
set_option linter.unusedSectionVars false
open Go.RowKit

/-- how a good's name stands to a name -/
def cmpG (x : DGood) (id : ByteArray) : Int := if ltG x id then -1 else if eqG x id then 0 else 1
theorem cmpG_neg {x : DGood} {id : ByteArray} : (cmpG x id < 0) = (ltG x id = true) := by
  unfold cmpG
  split
  · rename_i h; simp [h]
  · rename_i h; split <;> simp [h]
theorem cmpG_zero {x : DGood} {id : ByteArray} (h : ltG x id = false) : (cmpG x id == 0) = eqG x id := by
  unfold cmpG
  rw [h]
  cases eqG x id <;> rfl
set_option maxRecDepth 100000 in
set_option maxHeartbeats 2000000 in
theorem i_cmpG (x : DGood) (id : ByteArray) (w : World) :
    Calls Tryz.prog 42 #[.agg #[.string x.fId, .int .i64 x.fCount, .int .i64 x.fLeast, .int .i64 x.fPrice], .string id] w fun e w' => e = .returned (.int .i64 (cmpG x id)) ∧ Below w.heap.size w w' := by
  have hb0 : Below w.heap.size w (w.alloc (.cells #[.string x.fId, .int .i64 x.fCount, .int .i64 x.fLeast, .int .i64 x.fPrice] 27)) := (Below.refl _ _).alloc (Nat.le_refl _) _
  rcases h1 : Op.bytesLess x.fId.toList id.toList with _ | _
  · rcases h2 : x.fId.toList == id.toList with _ | _
    · have E : Hid (cmpG x id = 1) := Lib.hid (by unfold cmpG ltG eqG; rw [h1, h2]; rfl)
      go_enter Tryz.func42, Tryz.ntmps42
      go_wp2
      go_ret
      exact ⟨ret_int E.out.symm, hb0⟩
    · have E : Hid (cmpG x id = 0) := Lib.hid (by unfold cmpG ltG eqG; rw [h1, h2]; rfl)
      go_enter Tryz.func42, Tryz.ntmps42
      go_wp2
      go_ret
      exact ⟨ret_int E.out.symm, hb0⟩
  · have E : Hid (cmpG x id = -1) := Lib.hid (by unfold cmpG ltG; rw [h1]; rfl)
    go_enter Tryz.func42, Tryz.ntmps42
    go_wp2
    go_ret
    exact ⟨ret_int E.out.symm, hb0⟩
theorem w64_in (n : Int) (h : -9223372036854775808 ≤ n ∧ n ≤ 9223372036854775807) : wrap64 n = n := by unfold wrap64; omega
theorem u64_in (n : Int) (h : 0 ≤ n ∧ n ≤ 18446744073709551615) : IntKind.u64.wrap n = n := by
  simp [IntKind.wrap, IntKind.bits, IntKind.signed]
  omega
set_option maxRecDepth 100000 in
set_option maxHeartbeats 4000000 in
theorem i_BinSearchG (A : Option Addr) (n c : Nat) (l : List DGood) (id : ByteArray) (p : Nat) (w : World) (hr : Rd goodE w A n l) (hn : n ≤ 8388608) (hp : PartsG l id p) (hpp : posG l id = p) :
    Calls Tryz.prog 41 #[.slice A n c, .string id, (.func (.func 42) #[] #[])] w fun e w' => e = .returned (.tuple #[.int .i64 p, .bool (foundG l id)]) ∧ Below w.heap.size w w' := by
  have Hl := Lib.hid hr.1
  have hpn : p ≤ n := by have := hp.le; rw [Hl.out] at this; exact this
  have HP := Lib.hid hp; clear hp
  have HPP := Lib.hid hpp; clear hpp
  go_enter Tryz.func41, Tryz.ntmps41
  go_wp2_with fail
  go_loopw [9, 10] (fun i j wr => ∃ (a z : Nat), a ≤ p ∧ p ≤ z ∧ z ≤ n ∧ i = .int .i64 a ∧ j = .int .i64 z ∧ Below w.heap.size w wr) (fun i j _ => (intOf j).toNat - (intOf i).toNat)
  case atStart => exact ⟨0, n, Nat.zero_le _, hpn, Nat.le_refl _, rfl, rfl, Below.refl _ _⟩
  case round =>
    obtain ⟨a, z, ha, hz, hzn, rfl, rfl, hb⟩ := hrel
    by_cases hlt : a < z
    · obtain ⟨m, hm⟩ : ∃ m, (a + z) / 2 = m := ⟨_, rfl⟩
      have hm1 : a ≤ m := by omega
      have hm2 : m < z := by omega
      obtain ⟨b, off, rfl, hcs⟩ := hr.2 (by omega)
      obtain ⟨x, hx⟩ : ∃ x, l[m]? = some x := ⟨_, List.getElem?_eq_getElem (by have := Hl.out; omega)⟩
      have hcr := range_below (B := 0) (hcs m x hx) hb
      have hc0 := hcr 0 _ rfl
      have hc1 := hcr 1 _ rfl
      have hc2 := hcr 2 _ rfl
      have hc3 := hcr 3 _ rfl
      simp only [goodE, Nat.add_zero] at hc0 hc1 hc2 hc3
      clear hcr hcs
      have hM := fun W => i_cmpG x id W
      have hmm : wrap64 (IntKind.u64.wrap (wrap64 ((a : Int) + z)) / 2) = m := by
        rw [w64_in ((a : Int) + z) (by omega), u64_in ((a : Int) + z) (by omega), w64_in (((a : Int) + z) / 2) (by omega)]
        omega
      by_cases hlt0 : cmpG x id < 0
      · have hmp : m < p := by
          rcases Nat.lt_or_ge m p with h | h
          · exact h
          · have := HP.out.hi m x h hx; rw [cmpG_neg, this] at hlt0; cases hlt0
        clear hx
        go_wp2_with fail
        refine (hM _).mono ?_
        rintro e w2 ⟨rfl, hb2⟩
        have hbN := hb.trans (hb2.mono hb.size)
        clear hM hc0 hc1 hc2 hc3
        go_wp2
        first | (refine ⟨⟨m + 1, z, by omega, by omega, by omega, by go_num, rfl, hbN⟩, ?_⟩; (simp [intOf]; omega)) | (go_roundw; (case rel => first | exact ⟨m + 1, z, by omega, by omega, by omega, by go_num, rfl, hbN⟩ | ((try refine ⟨trivial, ?_⟩); (repeat apply Exists.intro); exact ⟨⟨m + 1, z, by omega, by omega, by omega, by go_num, rfl, hbN⟩, rfl⟩)); (case measure => (simp [intOf]; omega)))
      · have hmp : p ≤ m := by
          rcases Nat.lt_or_ge m p with h | h
          · have := HP.out.lo m x h hx; rw [cmpG_neg, this] at hlt0; exact absurd rfl hlt0
          · exact h
        clear hx
        go_wp2_with fail
        refine (hM _).mono ?_
        rintro e w2 ⟨rfl, hb2⟩
        have hbN := hb.trans (hb2.mono hb.size)
        clear hM hc0 hc1 hc2 hc3
        go_wp2
        first | (refine ⟨⟨a, m, by omega, by omega, by omega, rfl, by congr 1; omega, hbN⟩, ?_⟩; (simp [intOf]; omega)) | (go_roundw; (case rel => first | exact ⟨a, m, by omega, by omega, by omega, rfl, by congr 1; omega, hbN⟩ | ((try refine ⟨trivial, ?_⟩); (repeat apply Exists.intro); exact ⟨⟨a, m, by omega, by omega, by omega, rfl, by congr 1; omega, hbN⟩, rfl⟩)); (case measure => (simp [intOf]; omega)))
    · obtain rfl : p = a := by omega
      obtain rfl : p = z := by omega
      by_cases hpn' : p < n
      · skip
        obtain ⟨b, off, rfl, hcs⟩ := hr.2 (by omega)
        obtain ⟨x, hx⟩ : ∃ x, l[p]? = some x := ⟨_, List.getElem?_eq_getElem (by have := Hl.out; omega)⟩
        have hcr := range_below (B := 0) (hcs p x hx) hb
        have hc0 := hcr 0 _ rfl
        have hc1 := hcr 1 _ rfl
        have hc2 := hcr 2 _ rfl
        have hc3 := hcr 3 _ rfl
        simp only [goodE, Nat.add_zero] at hc0 hc1 hc2 hc3
        have hlo := HP.out.hi p x (Nat.le_refl _) hx
        have HF : Hid (foundG l id = (cmpG x id == 0)) := Lib.hid (by unfold foundG; rw [HPP.out, hx, cmpG_zero hlo])
        clear hcr hcs hx hlo
        have hM := fun W => i_cmpG x id W
        obtain ⟨q, hq⟩ : ∃ q, cmpG x id = q := ⟨_, rfl⟩
        rw [hq] at hM HF
        clear hq
        go_wp2_with fail
        refine (hM _).mono ?_
        rintro e w2 ⟨rfl, hb2⟩
        clear hM
        go_wp2
        go_ret2
        exact ⟨by rw [HF.out]; rfl, hb.trans (hb2.mono hb.size)⟩
      · have HF' : Hid (foundG l id = false) := Lib.hid (by unfold foundG; rw [HPP.out, List.getElem?_eq_none (by have := Hl.out; omega)])
        go_wp2
        go_ret2
        exact ⟨by rw [HF'.out]; rfl, hb⟩
theorem i_goodOf (A : Option Addr) (n c : Nat) (l : List DGood) (id : ByteArray) (w : World) (hr : Rd goodE w A n l) (hn : n ≤ 8388608) (hok : OkGoods l) :
    Calls Tryz.prog 31 #[.slice A n c, .string id] w fun e w' => e = .returned (.tuple #[.int .i64 (posG l id), .bool (foundG l id)]) ∧ Below w.heap.size w w' := by
  have HO := Lib.hid hok; clear hok
  go_enter Tryz.func31, Tryz.ntmps31
  go_wp2_with fail
  refine (i_BinSearchG A n c l id _ _ hr hn (HO.out.parts _) rfl).mono ?_
  rintro e w1 ⟨rfl, hb⟩
  go_wp2
  go_ret2
  exact ⟨rfl, hb⟩
set_option maxHeartbeats 1000000 in
theorem l_r8Same_yes (A A' : Option Addr) (n c c' : Nat) (ss : List Int) (w : World) (hr : Rd intE w A n ss) (hr' : Rd intE w A' n ss) (hn : n ≤ 1048576) :
    Calls Tryz.prog 12 #[.slice A n c, .slice A' n c'] w (RetB true w) := by
  go_enter Tryz.func12, Tryz.ntmps12
  go_wp2_with fail
  go_loopw [5] (fun i wr => ∃ k : Nat, k ≤ n ∧ i = .int .i64 k ∧ Below w.heap.size w wr) (fun i _ => n - (intOf i).toNat)
  case atStart => exact ⟨0, Nat.zero_le _, rfl, Below.refl _ _⟩
  case round =>
    obtain ⟨k, hk, rfl, hb⟩ := hrel
    by_cases hkn : k < n
    · obtain ⟨b, off, s, rfl, hks, hc⟩ := hr.get hkn
      obtain ⟨b', off', s', rfl, hks', hc'⟩ := hr'.get hkn
      obtain rfl : s = s' := Option.some.inj (hks.symm.trans hks')
      have hc0 := range_below (B := 0) hc hb 0 (.int .i64 s) rfl
      have hc0' := range_below (B := 0) hc' hb 0 (.int .i64 s) rfl
      simp only [intE, Nat.mul_one, Nat.add_zero] at hc0 hc0'
      clear hc hc' hks hks'
      go_wp2_with fail
      go_quiet (fail)
      go_wp2
      first | (refine ⟨⟨k + 1, by omega, by go_num, below_drewN hb _⟩, ?_⟩; (simp [intOf]; omega)) | (go_roundw; (case rel => first | exact ⟨k + 1, by omega, by go_num, below_drewN hb _⟩ | ((try refine ⟨trivial, ?_⟩); (repeat apply Exists.intro); exact ⟨⟨k + 1, by omega, by go_num, below_drewN hb _⟩, rfl⟩)); (case measure => (simp [intOf]; omega)))
    · go_wp2
      go_ret
      exact ⟨rfl, hb⟩
set_option maxRecDepth 100000 in
set_option maxHeartbeats 2000000 in
theorem s_ValidGoods_yes (A : Option Addr) (n c : Nat) (l : List DGood) (w : World) (hr : Rd goodE w A n l) (hok : OkGoods l) :
    Calls Tryz.prog 33 #[.slice A n c] w (RetB true w) := by
  have Hl := Lib.hid hr.1
  have hn : n ≤ 16 := by have := hok.few; have := hr.1; omega
  have HO := Lib.hid hok; clear hok
  go_enter Tryz.func33, Tryz.ntmps33
  go_wp2_with fail
  go_loopw [3] (fun i wr => ∃ k : Nat, k ≤ n ∧ i = .int .i64 k ∧ Below w.heap.size w wr) (fun i _ => n - (intOf i).toNat)
  case atStart => exact ⟨0, Nat.zero_le _, rfl, Below.refl _ _⟩
  case round =>
    obtain ⟨k, hk, rfl, hb⟩ := hrel
    by_cases hlt : k < n
    · skip
      obtain ⟨b, off, rfl, hcs⟩ := hr.2 (by omega)
      obtain ⟨x, hx⟩ : ∃ x, l[k]? = some x := ⟨_, List.getElem?_eq_getElem (by have := Hl.out; omega)⟩
      have hcr := range_below (B := 0) (hcs k x hx) hb
      have hc0 := hcr 0 _ rfl
      have hc1 := hcr 1 _ rfl
      have hc2 := hcr 2 _ rfl
      have hc3 := hcr 3 _ rfl
      simp only [goodE, Nat.add_zero] at hc0 hc1 hc2 hc3
      have hone : Hid (∀ m, Calls Tryz.prog 45 #[.pointer (some ⟨b, off + k * 4, none⟩)] (wr.drewN m) fun e w' => e = .returned (.bool true) ∧ wr.drewN m = w') := Lib.hid (fun m => by
        have h := s_l26One b (off + k * 4) x (wr.drewN m) (HO.out.sz x (mem_of_get hx)) (by exact hcr)
        rw [HO.out.ok x (mem_of_get hx)] at h
        exact h)
      obtain hk0 | ⟨j, hk0⟩ : k = 0 ∨ ∃ j, k = j + 1 := by cases k with
        | zero => exact .inl rfl
        | succ j => exact .inr ⟨j, rfl⟩
      · subst hk0
        have hone' := hone.out
        rw [Nat.zero_mul, Nat.add_zero] at hc0 hc1 hc2 hc3 hone'
        clear hx hcs hcr hone
        go_wp2_with fail
        go_quiet ((go_at_call 45; with_reducible exact quiet_left (hone' _)))
        go_wp2
        first | (refine ⟨⟨1, by omega, by go_num, below_drewN hb _⟩, ?_⟩; (simp [intOf]; omega)) | (go_roundw; (case rel => first | exact ⟨1, by omega, by go_num, below_drewN hb _⟩ | ((try refine ⟨trivial, ?_⟩); (repeat apply Exists.intro); exact ⟨⟨1, by omega, by go_num, below_drewN hb _⟩, rfl⟩)); (case measure => (simp [intOf]; omega)))
      · subst hk0
        obtain ⟨p, hp⟩ : ∃ p, l[j]? = some p := ⟨_, List.getElem?_eq_getElem (by have := Hl.out; omega)⟩
        have hp0 := range_below (B := 0) (hcs j p hp) hb 0 _ rfl
        simp only [goodE, Nat.add_zero] at hp0
        have hlt' := HO.out.asc j p x hp hx
        clear hx hcs hp hcr
        go_wp2_with fail
        go_quiet ((go_at_call 45; with_reducible exact quiet_left (hone.out _)))
        go_wp2
        first | (refine ⟨⟨j + 2, by omega, by go_num, below_drewN hb _⟩, ?_⟩; (simp [intOf]; omega)) | (go_roundw; (case rel => first | exact ⟨j + 2, by omega, by go_num, below_drewN hb _⟩ | ((try refine ⟨trivial, ?_⟩); (repeat apply Exists.intro); exact ⟨⟨j + 2, by omega, by go_num, below_drewN hb _⟩, rfl⟩)); (case measure => (simp [intOf]; omega)))
    · have hf : decide ((n : Int) ≤ 16) = true := decide_eq_true (by omega)
      go_wp2
      go_ret
      exact ⟨ret_bool (by first | exact hf | (simp; done) | (simp; omega)), hb⟩
theorem s_ValidGoods (A : Option Addr) (n c : Nat) (l : List DGood) (w : World) (hr : Rd goodE w A n l) (hok : OkGoods l) :
    Calls Tryz.prog 17 #[.slice A n c] w (RetB true w) := by
  have HO := Lib.hid hok; clear hok
  go_enter Tryz.func17, Tryz.ntmps17
  go_wp2_with fail
  refine (s_ValidGoods_yes A n c l w hr HO.out).mono ?_
  rintro e w1 ⟨rfl, hb⟩
  go_wp2
  go_ret
  exact ⟨rfl, hb⟩
set_option maxRecDepth 100000 in
set_option maxHeartbeats 2000000 in
theorem i_WithinMoney (A : Option Addr) (n c : Nat) (l : List DGood) (m0 : Int) (w : World) (hr : Rd goodE w A n l) (hok : OkGoods l) (hm0 : 0 ≤ m0) (hm1 : m0 ≤ 1000000000000) :
    Calls Tryz.prog 11 #[.slice A n c, .int .i64 m0] w (RetLC intE 2 (buyL m0 l) 0 w) := by
  obtain ⟨i0, hi, hz0, hz1, hz2⟩ := info_parts Tryz.info_int
  have HZ := Lib.hid (And.intro hz1 hz2)
  clear hz1 hz2
  have hI := fun W => i_within m0 0 1000000000000 W
  rw [inB_true hm0 hm1] at hI
  have Hl := Lib.hid hr.1
  have hn : n ≤ 16 := by have := hok.few; have := hr.1; omega
  have HO := Lib.hid hok
  have hV := fun W hb => i_ValidGoods_yes A n c l W (hr.below hb) hok
  have HR := Lib.hid hr
  clear hok hr
  go_enter Tryz.func11, Tryz.ntmps11
  go_wp2_with fail
  refine (hV _ (Below.refl _ _)).mono ?_
  rintro e w1 ⟨rfl, hb1⟩
  have HB1 := Lib.hid hb1
  have HR1 := Lib.hid (HR.out.below hb1)
  clear hV hb1 HR
  have HG0 : Hid (GL intE 2 w1.heap.size (w1.alloc (.cells #[] 2)) (.slice (some ⟨w1.heap.size, 0, none⟩) 0 0) []) := Lib.hid (GL.mk0 (Nat.le_refl _))
  have hbS : Below w1.heap.size w1 (w1.alloc (.cells #[] 2)) := (Below.refl _ _).alloc (Nat.le_refl _) _
  go_wp2_with fail
  refine (hI _).mono ?_
  rintro e w' ⟨rfl, rfl⟩
  clear hI
  go_wp2_with fail
  go_loopw [1, 6, 19] (fun mo v i wr => ∃ (k : Nat) (A' : Option Addr) (c' : Nat), k ≤ n ∧ i = .int .i64 k ∧ v = .slice A' k c' ∧ mo = .int .i64 (leftL m0 (l.take k)) ∧ Hid (GL intE 2 w1.heap.size wr (.slice A' k c') (buyL m0 (l.take k))) ∧ Below w1.heap.size w1 wr) (fun _ _ i _ => n - (intOf i).toNat)
  case atStart => exact ⟨0, _, 0, Nat.zero_le _, rfl, rfl, rfl, Lib.hid (by simpa [buyL] using HG0.out), hbS⟩
  case round =>
    obtain ⟨k, A', c', hk, rfl, rfl, rfl, HGL, hb⟩ := hrel
    clear HG0 hbS
    by_cases hlt : k < n
    · have hlr := left_nonneg (l := l.take k) (m := m0) (fun y hy => HO.out.gb y (List.mem_of_mem_take hy)) hm0
      obtain ⟨b, off, rfl, hcs⟩ := HR1.out.2 (by omega)
      obtain ⟨x, hx⟩ : ∃ x, l[k]? = some x := ⟨_, List.getElem?_eq_getElem (by have := Hl.out; omega)⟩
      have hcr := range_below (B := 0) (hcs k x hx) hb
      have hc0 := hcr 0 _ rfl
      have hc1 := hcr 1 _ rfl
      have hc2 := hcr 2 _ rfl
      have hc3 := hcr 3 _ rfl
      simp only [goodE, Nat.add_zero] at hc0 hc1 hc2 hc3
      have HG := Lib.hid (HO.out.gb x (mem_of_get hx))
      have HX := Lib.hid hx
      clear hcr hx hcs
      have hcx := range_new wr #[.string x.fId, .int .i64 x.fCount, .int .i64 x.fLeast, .int .i64 x.fPrice] 27
      have hba : Below wr.heap.size wr (wr.alloc (.cells #[.string x.fId, .int .i64 x.fCount, .int .i64 x.fLeast, .int .i64 x.fPrice] 27)) := (Below.refl _ _).alloc (Nat.le_refl _) _
      obtain ⟨W0, hW0⟩ : ∃ W0, wr.alloc (.cells #[.string x.fId, .int .i64 x.fCount, .int .i64 x.fLeast, .int .i64 x.fPrice] 27) = W0 := ⟨_, rfl⟩
      rw [hW0] at hcx hba
      have hb0 := hb.trans (hba.mono hb.size)
      have hx0 := hcx 0 _ rfl
      have hx1 := hcx 1 _ rfl
      have hx2 := hcx 2 _ rfl
      have hx3 := hcx 3 _ rfl
      simp only [Nat.zero_add] at hx0 hx1 hx2 hx3
      clear hcx
      have hM := fun W => i_missing x W HG.out
      have hbu := HG.out.buys (money := leftL m0 (l.take k)) hlr.1
      have HT := Lib.hid (buyL_take HX.out m0)
      have hms := HG.out.miss
      have hp0 := HG.out.p0
      have hp1 := HG.out.p1
      have HB1e : Hid (buy1 (leftL m0 (l.take k)) x = if 0 < x.fPrice then min (missG x) (leftL m0 (l.take k) / x.fPrice) else missG x) := Lib.hid rfl
      obtain ⟨mo, hmo⟩ : ∃ mo, leftL m0 (l.take k) = mo := ⟨_, rfl⟩
      rw [hmo] at hlr hbu HT HB1e ⊢
      obtain ⟨q, hq⟩ : ∃ q, missG x = q := ⟨_, rfl⟩
      rw [hq] at hM hms HB1e
      have b0 := hbu.n0; have b1 := hbu.c0; have b2 := hbu.c1; have b3 := hbu.n1
      rw [hq] at b3
      obtain ⟨z, hz⟩ : ∃ z, buy1 mo x = z := ⟨_, rfl⟩
      rw [hz] at b0 b1 b2 b3 HT HB1e
      have HFX : Hid (Value.ownBlock (.slice A' k c') = some wr.heap.size → False) := Lib.hid fun e => by have := (HGL.out.lt _ e).2; omega
      have HGL0 := Lib.hid (HGL.out.below hba)
      clear hmo hq hz hbu HGL hba
      go_wp2_with fail
      try rw [hW0]
      clear hW0 hc0 hc1 hc2 hc3
      refine (hM _).mono ?_
      rintro e w2 ⟨rfl, hb2⟩
      replace hx0 := cell_later hb2 hx0
      replace hx1 := cell_later hb2 hx1
      replace hx2 := cell_later hb2 hx2
      replace hx3 := cell_later hb2 hx3
      replace hb0 := hb0.trans (hb2.mono hb0.size)
      have hgl := HGL0.out.below hb2
      clear hM hb2 HGL0
      obtain ⟨bx, hbx⟩ : ∃ bx, wr.heap.size = bx := ⟨_, rfl⟩
      rw [hbx] at hx0 hx1 hx2 hx3 HFX ⊢
      have hlx : bx < w2.heap.size := World.block_lt_of_cell? w2 ⟨bx, 0, none⟩ hx0
      clear hbx
      have q1 : IntKind.i64.wrap (z * x.fPrice) = z * x.fPrice := wid (by omega)
      have q2 : IntKind.i64.wrap (mo - z * x.fPrice) = mo - z * x.fPrice := wid (by omega)
      by_cases hpr : 0 < x.fPrice
      · have hmz : min q (mo / x.fPrice) = z := by rw [HB1e.out, if_pos hpr]
        have hd1 : mo.tdiv x.fPrice = mo / x.fPrice := Int.tdiv_eq_ediv_of_nonneg hlr.1
        have hdr : 0 ≤ mo / x.fPrice ∧ mo / x.fPrice ≤ mo := ⟨Int.ediv_nonneg hlr.1 hp0, Int.ediv_le_self _ hlr.1⟩
        have hd2 : IntKind.i64.wrap (mo / x.fPrice) = mo / x.fPrice := wid (by omega)
        have hne : ¬ x.fPrice = 0 := by omega
        clear HB1e
        go_wp2_with (at_builtin; refine wpList_pushO intE rfl _ _ 34 rfl w1.heap.size 2 i0 _ 8 Tryz.underlying34 hi hz0 HZ.out.1 HZ.out.2 rfl A' k c' _ z rfl (hgl.alloc _) w2.heap.size rfl (range_new _ _ _) (by omega) (by decide) (by have := hb0.size; simp; omega) ?_; intro A2 c2 w4 hgl4 ht4 _; have hbw : Below w2.heap.size w2 (w2.alloc (.cells #[.int .i64 z] 2)) := (Below.refl _ _).alloc (Nat.le_refl _) _; have hFx : ¬ Value.ownBlock (.slice A' k c') = some bx := fun e => HFX.out e; replace hx0 := cell_later hbw hx0; replace hx0 := touch_cell ht4 hFx hx0; replace hx1 := cell_later hbw hx1; replace hx1 := touch_cell ht4 hFx hx1; replace hx2 := cell_later hbw hx2; replace hx2 := touch_cell ht4 hFx hx2; replace hx3 := cell_later hbw hx3; replace hx3 := touch_cell ht4 hFx hx3)
        have HG4 : Hid (GL intE 2 w1.heap.size w4 (.slice A2 (k + 1) c2) (buyL m0 (l.take (k + 1)))) := Lib.hid (by rw [HT.out.1]; exact hgl4)
        have hb4 : Below w1.heap.size w1 w4 := Below.touch (hb0.alloc hb0.size _) ht4 (fun q hq => (hgl.lt q hq).1) (by have := hb0.size; simp; omega)
        clear hgl hgl4 ht4 HFX
        go_wp2
        first | (refine ⟨⟨k + 1, A2, c2, by omega, by go_num, rfl, by rw [HT.out.2] <;> go_num, HG4, hb4⟩, ?_⟩; (simp [intOf]; omega)) | (go_roundw; (case rel => first | exact ⟨k + 1, A2, c2, by omega, by go_num, rfl, by rw [HT.out.2] <;> go_num, HG4, hb4⟩ | ((try refine ⟨trivial, ?_⟩); (repeat apply Exists.intro); exact ⟨⟨k + 1, A2, c2, by omega, by go_num, rfl, by rw [HT.out.2] <;> go_num, HG4, hb4⟩, rfl⟩)); (case measure => (simp [intOf]; omega)))
      · have hqz : q = z := by rw [HB1e.out, if_neg hpr]
        subst hqz
        clear HB1e
        go_wp2_with (at_builtin; refine wpList_pushO intE rfl _ _ 34 rfl w1.heap.size 2 i0 _ 8 Tryz.underlying34 hi hz0 HZ.out.1 HZ.out.2 rfl A' k c' _ q rfl (hgl.alloc _) w2.heap.size rfl (range_new _ _ _) (by omega) (by decide) (by have := hb0.size; simp; omega) ?_; intro A2 c2 w4 hgl4 ht4 _; have hbw : Below w2.heap.size w2 (w2.alloc (.cells #[.int .i64 q] 2)) := (Below.refl _ _).alloc (Nat.le_refl _) _; have hFx : ¬ Value.ownBlock (.slice A' k c') = some bx := fun e => HFX.out e; replace hx0 := cell_later hbw hx0; replace hx0 := touch_cell ht4 hFx hx0; replace hx1 := cell_later hbw hx1; replace hx1 := touch_cell ht4 hFx hx1; replace hx2 := cell_later hbw hx2; replace hx2 := touch_cell ht4 hFx hx2; replace hx3 := cell_later hbw hx3; replace hx3 := touch_cell ht4 hFx hx3)
        have HG4 : Hid (GL intE 2 w1.heap.size w4 (.slice A2 (k + 1) c2) (buyL m0 (l.take (k + 1)))) := Lib.hid (by rw [HT.out.1]; exact hgl4)
        have hb4 : Below w1.heap.size w1 w4 := Below.touch (hb0.alloc hb0.size _) ht4 (fun q hq => (hgl.lt q hq).1) (by have := hb0.size; simp; omega)
        clear hgl hgl4 ht4 HFX
        go_wp2
        first | (refine ⟨⟨k + 1, A2, c2, by omega, by go_num, rfl, by rw [HT.out.2] <;> go_num, HG4, hb4⟩, ?_⟩; (simp [intOf]; omega)) | (go_roundw; (case rel => first | exact ⟨k + 1, A2, c2, by omega, by go_num, rfl, by rw [HT.out.2] <;> go_num, HG4, hb4⟩ | ((try refine ⟨trivial, ?_⟩); (repeat apply Exists.intro); exact ⟨⟨k + 1, A2, c2, by omega, by go_num, rfl, by rw [HT.out.2] <;> go_num, HG4, hb4⟩, rfl⟩)); (case measure => (simp [intOf]; omega)))
    · obtain rfl : k = n := by omega
      have E : Hid (l.take k = l) := Lib.hid (List.take_of_length_le (by have := Hl.out; omega))
      rw [E.out] at HGL ⊢
      have hgl := HGL.out
      clear HGL
      go_wp2
      go_ret2
      have ho := (hgl.mono HB1.out.size).own
      exact ⟨A', k, c', ho.1, by omega, ho.2, rfl, HB1.out.trans (hb.mono HB1.out.size)⟩
end Go.Proofs.YtfogginmdglagaaGreatDoor
