/- Rentals: one made longer, the first free day. Printed by a program of mine. -/
import Derived.Test.YthfedegmplmgfaaGreatDoorRows
import Derived.Test.YthfedegmplmgfaaGreatDoorRentG
namespace Go.Proofs.YthfedegmplmgfaaGreatDoor
set_option linter.unusedVariables false
set_option linter.unusedSimpArgs false
set_option linter.unusedSectionVars false
open Go.RowKit

def longR (x : DRental) : DRental := ⟨x.fId, x.fItem, x.fDay, x.fMonths + 1, x.fFee⟩
def ExtR (n i : Nat) (x : DRental) (w : World) (e : Ending) (w' : World) : Prop :=
  ((∃ g, e = .returned (.tuple #[.slice (some ⟨g, 0, none⟩) n n, .int .i64 0]) ∧ w'.cell? ⟨g, i * 5 + 3, none⟩ = some (.int .i64 (x.fMonths + 1))) ∨ e = .returned (.tuple #[.slice none 0 0, .int .i64 6])) ∧ Below w.heap.size w w'
theorem set_getR {l : List DRental} {x : DRental} {p j : Nat} (hp : p < l.length) : (l.set p x)[j]? = if j = p then some x else l[j]? := by
  rw [List.getElem?_set]
  by_cases h : p = j
  · subst h; simp [hp]
  · rw [if_neg h, if_neg (fun e => h e.symm)]
set_option maxRecDepth 100000 in
set_option maxHeartbeats 4000000 in
theorem i_Extend (A : Option Addr) (n c : Nat) (l : List DRental) (i : Nat) (x : DRental) (w : World) (hr : Rd rentalE w A n l) (hok : OkRentals l) (hsm : ∀ x ∈ l, RB x) (hx : l[i]? = some x) :
    Calls Tryz.prog 17 #[.slice A n c, .string x.fId, .int .i64 1] w (ExtR n i x w) := by
  have hM := fun W => i_isMonths 1 W
  rw [inB_true (by omega) (by omega)] at hM
  have hK := fun W (hb : Below w.heap.size w W) => i_cloneRental A n c l W (hr.below hb) (by have := hok.few; have := hr.1; omega)
  have HX := Lib.hid hx
  have hin : i < n := by rw [← hr.1]; exact (List.getElem?_eq_some_iff.1 hx).1
  have hxg := hsm x (List.mem_of_getElem? hx)
  have xm0 := hxg.m0; have xm1 := hxg.m1; have xd0 := hxg.d0; have xd1 := hxg.d1
  clear hx
  have Hl := Lib.hid hr.1
  have hn : n ≤ 12 := by have := hok.few; have := hr.1; omega
  have HO := Lib.hid hok
  have HS := Lib.hid hsm
  have hV := fun W hb => i_ValidRentals_yes A n c l W (hr.below hb) hok
  have HR := Lib.hid hr
  clear hok hr hsm
  go_enter Tryz.func17, Tryz.ntmps17
  go_wp2_with fail
  refine (hV _ (Below.refl _ _)).mono ?_
  rintro e w1 ⟨rfl, hb1⟩
  have HB1 := Lib.hid hb1
  have HR1 := Lib.hid (HR.out.below hb1)
  clear hV hb1 HR
  go_wp2_with fail
  refine (hM _).mono ?_
  rintro e w' ⟨rfl, rfl⟩
  clear hM
  go_wp2_with fail
  refine (hK _ HB1.out).mono ?_
  rintro e w2 ⟨g, rfl, hgl, hb2⟩
  have HGL := Lib.hid hgl
  have HB2 := Lib.hid (HB1.out.trans (hb2.mono HB1.out.size))
  have HGW := Lib.hid (Nat.le_trans HB1.out.size hgl.baseLe)
  clear hK hgl hb2 HB1
  go_wp2_with fail
  go_loopw [9] (fun v wr => ∃ j : Nat, j ≤ i ∧ v = .int .i64 j ∧ Below w2.heap.size w2 wr) (fun v _ => n - (intOf v).toNat)
  case atStart => exact ⟨0, Nat.zero_le _, rfl, Below.refl _ _⟩
  case round =>
    obtain ⟨j, hj, rfl, hb⟩ := hrel
    have hgl := HGL.out.below hb
    obtain ⟨y, hy⟩ : ∃ y, l[j]? = some y := ⟨_, List.getElem?_eq_getElem (by have := Hl.out; omega)⟩
    have hc0 := hgl.range0 hy 0 _ rfl
    simp only [rentalE, Nat.add_zero] at hc0
    have hjn : j < n := by omega
    by_cases hji : j < i
    · have hne : (y.fId.toList == x.fId.toList) = false := by
        rcases he : y.fId.toList == x.fId.toList with _ | _
        · rfl
        · exact absurd (AscBy.at (f := fun x : DRental => x.fId) HO.out.asc hy HX.out (same_text he)) (by omega)
      clear hgl hy
      go_wp2
      first | (refine ⟨⟨j + 1, by omega, by go_num, hb⟩, ?_⟩; (simp [intOf]; omega)) | (go_roundw; (case rel => first | exact ⟨j + 1, by omega, by go_num, hb⟩ | ((try refine ⟨trivial, ?_⟩); (repeat apply Exists.intro); exact ⟨⟨j + 1, by omega, by go_num, hb⟩, rfl⟩)); (case measure => (simp [intOf]; omega)))
    · obtain rfl : i = j := by omega
      obtain rfl : y = x := Option.some.inj (hy.symm.trans HX.out)
      have hne : (y.fId.toList == y.fId.toList) = true := by simp
      have hni : ((i : Int) == (n : Int)) = false := by rw [beq_eq_false_iff_ne]; omega
      have hc3 := hgl.range0 hy 3 _ rfl
      have hf3 := hgl.free (i * 5 + 3)
      have hs := hgl.set1 (j := 3) (v := .int .i64 (y.fMonths + 1)) (x' := longR y) hy rfl (by show 3 < 5; omega)
      have hbs := (HB2.out.trans (hb.mono HB2.out.size)).setCell (p := ⟨g, i * 5 + 3, none⟩) HGW.out (.int .i64 (y.fMonths + 1))
      obtain ⟨V, hV⟩ : ∃ V, wr.setCell ⟨g, i * 5 + 3, none⟩ (.int .i64 (y.fMonths + 1)) = V := ⟨_, rfl⟩
      have hs' : GL rentalE 37 w1.heap.size V (.slice (some ⟨g, 0, none⟩) n n) (l.set i (longR y)) := hV ▸ hs
      rw [hV] at hbs
      have HGV := Lib.hid hs'
      have hv3 : V.cell? ⟨g, i * 5 + 3, none⟩ = some (.int .i64 (y.fMonths + 1)) := hV ▸ World.cell?_setCell_same _ _ _ hc3
      clear hgl hs hs' hji
      go_wp2_with fail
      clear hV hc0 hc3 hf3 hne hni
      go_loopw [56] (fun v wr => ∃ k : Nat, k ≤ n ∧ v = .int .i64 k ∧ Below V.heap.size V wr) (fun v _ => n - (intOf v).toNat)
      case atStart => exact ⟨0, Nat.zero_le _, rfl, Below.refl _ _⟩
      case round =>
        obtain ⟨k, hk, rfl, hbk⟩ := hrel
        have hgk := HGV.out.below hbk
        have hli : i < l.length := by rw [Hl.out]; exact hin
        have hvi : (l.set i (longR y))[i]? = some (longR y) := by rw [set_getR hli, if_pos rfl]
        have hci := hgk.range0 hvi
        have hd0 := hci 0 _ rfl
        have hd1 := hci 1 _ rfl
        have hd2 := hci 2 _ rfl
        have hd3 := hci 3 _ rfl
        have hd4 := hci 4 _ rfl
        simp only [rentalE, Nat.add_zero, longR] at hd0 hd1 hd2 hd3 hd4
        by_cases hkn : k < n
        · by_cases hki : k = i
          · subst hki
            have hne : ((k : Int) != (k : Int)) = false := by simp
            clear hci hvi hgk
            have hbA := hbk.alloc hbk.size (.cells #[.string y.fId, .string y.fItem, .int .i64 y.fDay, .int .i64 (y.fMonths + 1), .int .i64 y.fFee] 37)
            go_wp2_with fail
            go_quiet (fail)
            go_wp2
            first | (refine ⟨⟨k + 1, by omega, by go_num, below_drewN hbA _⟩, ?_⟩; (simp [intOf]; omega)) | (go_roundw; (case rel => first | exact ⟨k + 1, by omega, by go_num, below_drewN hbA _⟩ | ((try refine ⟨trivial, ?_⟩); (repeat apply Exists.intro); exact ⟨⟨k + 1, by omega, by go_num, below_drewN hbA _⟩, rfl⟩)); (case measure => (simp [intOf]; omega)))
          · obtain ⟨z, hz⟩ : ∃ z, l[k]? = some z := ⟨_, List.getElem?_eq_getElem (by rw [Hl.out]; exact hkn)⟩
            have hvk : (l.set i (longR y))[k]? = some z := by rw [set_getR hli, if_neg hki]; exact hz
            have hck := hgk.range0 hvk
            have hc0 := hck 0 _ rfl
            have hc1 := hck 1 _ rfl
            have hc2 := hck 2 _ rfl
            have hc3 := hck 3 _ rfl
            have hc4 := hck 4 _ rfl
            simp only [rentalE, Nat.add_zero] at hc0 hc1 hc2 hc3 hc4
            have hne : ((k : Int) != (i : Int)) = true := by simp; omega
            have HC : Hid (∀ W, Calls Tryz.prog 27 #[.agg #[.string z.fId, .string z.fItem, .int .i64 z.fDay, .int .i64 z.fMonths, .int .i64 z.fFee], .agg #[.string y.fId, .string y.fItem, .int .i64 y.fDay, .int .i64 (y.fMonths + 1), .int .i64 y.fFee]] W (RetB (clashR z (longR y)) W)) := Lib.hid fun W => i_clashes z (longR y) W (HS.out z (List.mem_of_getElem? hz)) ⟨xd0, by show y.fDay ≤ _; omega⟩ ⟨by show 0 ≤ y.fMonths + 1; omega, by show y.fMonths + 1 ≤ _; omega⟩
            have hcz := range_new wr #[.string z.fId, .string z.fItem, .int .i64 z.fDay, .int .i64 z.fMonths, .int .i64 z.fFee] 37
            have hba : Below wr.heap.size wr (wr.alloc (.cells #[.string z.fId, .string z.fItem, .int .i64 z.fDay, .int .i64 z.fMonths, .int .i64 z.fFee] 37)) := (Below.refl _ _).alloc (Nat.le_refl _) _
            obtain ⟨W0, hW0⟩ : ∃ W0, wr.alloc (.cells #[.string z.fId, .string z.fItem, .int .i64 z.fDay, .int .i64 z.fMonths, .int .i64 z.fFee] 37) = W0 := ⟨_, rfl⟩
            rw [hW0] at hcz hba
            have hz0 := hcz 0 _ rfl
            have hz1 := hcz 1 _ rfl
            have hz2 := hcz 2 _ rfl
            have hz3 := hcz 3 _ rfl
            have hz4 := hcz 4 _ rfl
            simp only [Nat.zero_add] at hz0 hz1 hz2 hz3 hz4
            have hb0 := hbk.trans (hba.mono hbk.size)
            replace hd0 := cell_later hba hd0
            replace hd1 := cell_later hba hd1
            replace hd2 := cell_later hba hd2
            replace hd3 := cell_later hba hd3
            replace hd4 := cell_later hba hd4
            clear hcz hck hvk hci hvi hgk hz
            obtain ⟨r, hr⟩ : ∃ r, clashR z (longR y) = r := ⟨_, rfl⟩
            rw [hr] at HC
            clear hr
            go_wp2_with fail
            try rw [hW0]
            clear hW0 hba hc0 hc1 hc2 hc3 hc4
            go_region_held3 (fun w' => (w'.cell? ⟨wr.heap.size, 0, none⟩ = some (.string z.fId) ∧ w'.cell? ⟨wr.heap.size, 1, none⟩ = some (.string z.fItem) ∧ w'.cell? ⟨wr.heap.size, 2, none⟩ = some (.int .i64 z.fDay) ∧ w'.cell? ⟨wr.heap.size, 3, none⟩ = some (.int .i64 z.fMonths) ∧ w'.cell? ⟨wr.heap.size, 4, none⟩ = some (.int .i64 z.fFee)) ∧ (w'.cell? ⟨g, i * 5, none⟩ = some (.string y.fId) ∧ w'.cell? ⟨g, i * 5 + 1, none⟩ = some (.string y.fItem) ∧ w'.cell? ⟨g, i * 5 + 2, none⟩ = some (.int .i64 y.fDay) ∧ w'.cell? ⟨g, i * 5 + 3, none⟩ = some (.int .i64 (y.fMonths + 1)) ∧ w'.cell? ⟨g, i * 5 + 4, none⟩ = some (.int .i64 y.fFee)) ∧ Below V.heap.size V w')
              (first | exact ⟨⟨hz0, hz1, hz2, hz3, hz4⟩, ⟨hd0, hd1, hd2, hd3, hd4⟩, hb0.drew⟩
                     | (go_split_ands; exact ⟨⟨cell_later hb2 (by assumption), cell_later hb2 (by assumption), cell_later hb2 (by assumption), cell_later hb2 (by assumption), cell_later hb2 (by assumption)⟩, ⟨cell_later hb2 (by assumption), cell_later hb2 (by assumption), cell_later hb2 (by assumption), cell_later hb2 (by assumption), cell_later hb2 (by assumption)⟩, Below.trans (by assumption) (hb2.mono (Below.size (by assumption)))⟩))
              (first | (go_at_call 27; go_split_ands; refine (HC.out _).mono ?_; rintro e w2 ⟨rfl, hb2⟩))
            rename_i hh
            obtain ⟨_, _, hbE⟩ := hh
            rcases r with _ | _
            · go_wp2
              first | (refine ⟨⟨k + 1, by omega, by go_num, hbE⟩, ?_⟩; (simp [intOf]; omega)) | (go_roundw; (case rel => first | exact ⟨k + 1, by omega, by go_num, hbE⟩ | ((try refine ⟨trivial, ?_⟩); (repeat apply Exists.intro); exact ⟨⟨k + 1, by omega, by go_num, hbE⟩, rfl⟩)); (case measure => (simp [intOf]; omega)))
            · go_wp2
              go_ret2
              exact ⟨.inr rfl, hbs.trans (hbE.mono hbs.size)⟩
        · have hv3k := cell_later hbk hv3
          clear hci hvi hgk hd0 hd1 hd2 hd3 hd4
          go_wp2
          go_ret2
          exact ⟨.inl ⟨g, rfl, hv3k⟩, hbs.trans (hbk.mono hbs.size)⟩
def FreeR (l : List DRental) (it : ByteArray) (m d : Int) (w : World) (e : Ending) (w' : World) : Prop :=
  (∃ f : Int, d ≤ f ∧ f ≤ 1250 ∧ (∀ x ∈ l, clashR x ⟨⟨#[]⟩, it, f, m, 0⟩ = false) ∧ (∀ t, d ≤ t → t < f → ∃ x ∈ l, clashR x ⟨⟨#[]⟩, it, t, m, 0⟩ = true) ∧ e = .returned (.tuple #[.int .i64 f, .int .i64 0])) ∧ Below w.heap.size w w'
/-- a clash on a day: the rental runs beyond it, and clashes till its end -/
theorem clash_on {x : DRental} {it : ByteArray} {d m : Int} (h : clashR x ⟨⟨#[]⟩, it, d, m, 0⟩ = true) (hm : 1 ≤ m) : d < endR x ∧ ∀ t, d ≤ t → t < endR x → clashR x ⟨⟨#[]⟩, it, t, m, 0⟩ = true := by
  unfold clashR at h ⊢
  rw [Bool.and_eq_true, decide_eq_true_eq] at h
  have h2 : max x.fDay d < min (endR x) (d + 30 * m) := h.2
  refine ⟨by omega, fun t h0 h1 => ?_⟩
  rw [Bool.and_eq_true, decide_eq_true_eq]
  exact ⟨h.1, by show max x.fDay t < min (endR x) (t + 30 * m); omega⟩
def bI : Bool → Nat
  | true => 1
  | false => 0
def boolOf : Value → Bool
  | .bool b => b
  | _ => false
set_option maxRecDepth 100000 in
set_option maxHeartbeats 4000000 in
theorem i_FreeFrom (A : Option Addr) (n c : Nat) (l : List DRental) (it : ByteArray) (d m : Int) (w : World) (hr : Rd rentalE w A n l) (hok : OkRentals l) (hsm : ∀ x ∈ l, RB x) (hit : nameB it = true) (hits : it.size ≤ maxLen) (h0 : 0 ≤ d) (h1 : d ≤ 1250) (m0 : 1 ≤ m) (m1 : m ≤ 120) :
    Calls Tryz.prog 21 #[.slice A n c, .string it, .int .i64 d, .int .i64 m] w (FreeR l it m d w) := by
  have hN := fun W => i_IsName it W hits
  rw [hit] at hN
  have hD := fun W => i_isRentDay' d W ⟨h0, by omega⟩
  have hM := fun W => i_isMonths m W
  rw [inB_true m0 m1] at hM
  have Hl := Lib.hid hr.1
  have hn : n ≤ 12 := by have := hok.few; have := hr.1; omega
  have HO := Lib.hid hok
  have HS := Lib.hid hsm
  have hV := fun W hb => i_ValidRentals_yes A n c l W (hr.below hb) hok
  have HR := Lib.hid hr
  clear hok hr hsm
  go_enter Tryz.func21, Tryz.ntmps21
  go_wp2_with fail
  refine (hV _ (Below.refl _ _)).mono ?_
  rintro e w1 ⟨rfl, hb1⟩
  have HB1 := Lib.hid hb1
  have HR1 := Lib.hid (HR.out.below hb1)
  clear hV hb1 HR
  go_wp2_with fail
  refine (hN _).mono ?_
  rintro e w' ⟨rfl, rfl⟩
  clear hN
  go_wp2_with fail
  refine (hD _).mono ?_
  rintro e w' ⟨rfl, rfl⟩
  clear hD
  go_wp2_with fail
  refine (hM _).mono ?_
  rintro e w' ⟨rfl, rfl⟩
  clear hM
  go_wp2_with fail
  go_loopw [2, 10] (fun v b wr => ∃ (f : Int) (mv : Bool), d ≤ f ∧ f ≤ 1250 ∧ v = .int .i64 f ∧ b = .bool mv ∧ Hid (∀ t, d ≤ t → t < f → ∃ x ∈ l, clashR x ⟨⟨#[]⟩, it, t, m, 0⟩ = true) ∧ Hid (mv = false → ∀ x ∈ l, clashR x ⟨⟨#[]⟩, it, f, m, 0⟩ = false) ∧ Below w1.heap.size w1 wr) (fun v b _ => 2 * (1250 - (intOf v)).toNat + bI (boolOf b))
  case atStart => exact ⟨d, true, by omega, h1, rfl, rfl, Lib.hid (fun t h2 h3 => by omega), Lib.hid (fun h => by cases h), Below.refl _ _⟩
  case round =>
    obtain ⟨f, mv, hf0, hf1, rfl, rfl, HT, HF, hb⟩ := hrel
    rcases mv with _ | _
    · have HF1 := Lib.hid (HF.out rfl)
      clear HF
      have hD := fun W => i_isRentDay' f W ⟨by omega, by omega⟩
      go_wp2_with fail
      refine (hD _).mono ?_
      rintro e w' ⟨rfl, rfl⟩
      clear hD
      go_wp2
      go_ret2
      exact ⟨⟨f, hf0, hf1, HF1.out, HT.out, rfl⟩, HB1.out.trans (hb.mono HB1.out.size)⟩
    · go_wp2_with fail
      obtain ⟨wo, hwo⟩ : ∃ wo : World, wo = wr := ⟨_, rfl⟩
      subst hwo
      go_loopw [2, 10, 32] (fun v b i wr => ∃ (k : Nat) (f2 : Int) (mv : Bool), k ≤ n ∧ i = .int .i64 k ∧ f ≤ f2 ∧ f2 ≤ 1250 ∧ v = .int .i64 f2 ∧ b = .bool mv ∧ (mv = true → f < f2) ∧ Hid (mv = false → f2 = f ∧ ∀ (j : Nat) (x : DRental), j < k → l[j]? = some x → clashR x ⟨⟨#[]⟩, it, f, m, 0⟩ = false) ∧ Hid (∀ t, d ≤ t → t < f2 → ∃ x ∈ l, clashR x ⟨⟨#[]⟩, it, t, m, 0⟩ = true) ∧ Below w1.heap.size w1 wr) (fun _ _ i _ => n - (intOf i).toNat)
      case atStart => exact ⟨0, f, false, Nat.zero_le _, rfl, by omega, hf1, rfl, rfl, (fun h => by cases h), Lib.hid (fun _ => ⟨rfl, fun j x hj => by omega⟩), HT, hb⟩
      case round =>
        obtain ⟨k, f2, mv, hk, rfl, hff, hf2, rfl, rfl, hmf, HM, HT2, hbi⟩ := hrel
        clear HF HT
        by_cases hlt : k < n
        · skip
          obtain ⟨b, off, rfl, hcs⟩ := HR1.out.2 (by omega)
          obtain ⟨x, hx⟩ : ∃ x, l[k]? = some x := ⟨_, List.getElem?_eq_getElem (by have := Hl.out; omega)⟩
          have hcr := range_below (B := 0) (hcs k x hx) hbi
          have hc0 := hcr 0 _ rfl
          have hc1 := hcr 1 _ rfl
          have hc2 := hcr 2 _ rfl
          have hc3 := hcr 3 _ rfl
          have hc4 := hcr 4 _ rfl
          simp only [rentalE, Nat.add_zero] at hc0 hc1 hc2 hc3 hc4
          have HG := Lib.hid (HS.out x (mem_of_get hx))
          have HX := Lib.hid hx
          have HCS := Lib.hid hcs
          clear hcr hx hcs
          have hcx := range_new wr #[.string x.fId, .string x.fItem, .int .i64 x.fDay, .int .i64 x.fMonths, .int .i64 x.fFee] 37
          have hba : Below wr.heap.size wr (wr.alloc (.cells #[.string x.fId, .string x.fItem, .int .i64 x.fDay, .int .i64 x.fMonths, .int .i64 x.fFee] 37)) := (Below.refl _ _).alloc (Nat.le_refl _) _
          obtain ⟨W0, hW0⟩ : ∃ W0, wr.alloc (.cells #[.string x.fId, .string x.fItem, .int .i64 x.fDay, .int .i64 x.fMonths, .int .i64 x.fFee] 37) = W0 := ⟨_, rfl⟩
          rw [hW0] at hcx hba
          have hb0 := hbi.trans (hba.mono hbi.size)
          have hx0 := hcx 0 _ rfl
          have hx1 := hcx 1 _ rfl
          have hx2 := hcx 2 _ rfl
          have hx3 := hcx 3 _ rfl
          have hx4 := hcx 4 _ rfl
          simp only [Nat.zero_add] at hx0 hx1 hx2 hx3 hx4
          clear hcx
          have HE := Lib.hid (fun W => i_end x W HG.out)
          have hen := HG.out.end_
          have HC : Hid (∀ W, Calls Tryz.prog 27 #[.agg #[.string x.fId, .string x.fItem, .int .i64 x.fDay, .int .i64 x.fMonths, .int .i64 x.fFee], .agg #[.string ⟨#[]⟩, .string it, .int .i64 f2, .int .i64 m, .int .i64 0]] W (RetB (clashR x ⟨⟨#[]⟩, it, f2, m, 0⟩) W)) := Lib.hid fun W => i_clashes x ⟨⟨#[]⟩, it, f2, m, 0⟩ W HG.out ⟨by show 0 ≤ f2; omega, by show f2 ≤ _; omega⟩ ⟨by show 0 ≤ m; omega, m1⟩
          have hE := HE.out
          obtain ⟨en, hen2⟩ : ∃ en, endR x = en := ⟨_, rfl⟩
          have HEN := Lib.hid hen2
          rw [hen2] at hE hen
          clear hen2 HE hba
          rcases hcl : clashR x ⟨⟨#[]⟩, it, f2, m, 0⟩ with _ | _
          · rw [hcl] at HC
            have hC := HC.out
            have HM2 : Hid (mv = false → f2 = f ∧ ∀ (j : Nat) (x : DRental), j < k + 1 → l[j]? = some x → clashR x ⟨⟨#[]⟩, it, f, m, 0⟩ = false) := Lib.hid fun h => by
              obtain ⟨h2, h3⟩ := HM.out h
              refine ⟨h2, fun j z hj hz => ?_⟩
              rcases Nat.lt_or_ge j k with h4 | h4
              · exact h3 j z h4 hz
              · obtain rfl : j = k := by omega
                rw [HX.out] at hz
                cases hz
                rw [← h2]; exact hcl
            clear hcl HC HM hE hen
            go_wp2_with fail
            try rw [hW0]
            clear hW0 hc0 hc1 hc2 hc3 hc4
            refine (hC _).mono ?_
            rintro e w2 ⟨rfl, hb2⟩
            have hbN := hb0.trans (hb2.mono hb0.size)
            clear hC hb2 hx0 hx1 hx2 hx3 hx4
            go_wp2
            first | (refine ⟨⟨k + 1, f2, mv, by omega, by go_num, hff, hf2, rfl, rfl, hmf, HM2, HT2, hbN⟩, ?_⟩; (simp [intOf]; omega)) | (go_roundw; (case rel => first | exact ⟨k + 1, f2, mv, by omega, by go_num, hff, hf2, rfl, rfl, hmf, HM2, HT2, hbN⟩ | ((try refine ⟨trivial, ?_⟩); (repeat apply Exists.intro); exact ⟨⟨k + 1, f2, mv, by omega, by go_num, hff, hf2, rfl, rfl, hmf, HM2, HT2, hbN⟩, rfl⟩)); (case measure => (simp [intOf]; omega)))
          · rw [hcl] at HC
            have hC := HC.out
            obtain ⟨hfe, hc2'⟩ := clash_on hcl m0
            rw [HEN.out] at hfe hc2'
            have HT3 : Hid (∀ t, d ≤ t → t < en → ∃ x ∈ l, clashR x ⟨⟨#[]⟩, it, t, m, 0⟩ = true) := Lib.hid fun t h2 h3 => by
              rcases Int.lt_or_le t f2 with h4 | h4
              · exact HT2.out t h2 h4
              · exact ⟨x, List.mem_of_getElem? HX.out, hc2' t h4 h3⟩
            clear hcl HC HM HT2 hc2'
            go_wp2_with fail
            try rw [hW0]
            clear hW0 hc0 hc1 hc2 hc3 hc4
            refine (hC _).mono ?_
            rintro e w2 ⟨rfl, hb2⟩
            replace hx0 := cell_later hb2 hx0
            replace hx1 := cell_later hb2 hx1
            replace hx2 := cell_later hb2 hx2
            replace hx3 := cell_later hb2 hx3
            replace hx4 := cell_later hb2 hx4
            replace hb0 := hb0.trans (hb2.mono hb0.size)
            clear hC hb2
            go_wp2_with fail
            refine (hE _).mono ?_
            rintro e w3 ⟨rfl, hb2⟩
            have hbN := hb0.trans (hb2.mono hb0.size)
            clear hE hb2 hx0 hx1 hx2 hx3 hx4
            go_wp2
            first | (refine ⟨⟨k + 1, en, true, by omega, by go_num, by omega, by omega, rfl, rfl, (fun _ => by omega), Lib.hid (fun h => by cases h), HT3, hbN⟩, ?_⟩; (simp [intOf]; omega)) | (go_roundw; (case rel => first | exact ⟨k + 1, en, true, by omega, by go_num, by omega, by omega, rfl, rfl, (fun _ => by omega), Lib.hid (fun h => by cases h), HT3, hbN⟩ | ((try refine ⟨trivial, ?_⟩); (repeat apply Exists.intro); exact ⟨⟨k + 1, en, true, by omega, by go_num, by omega, by omega, rfl, rfl, (fun _ => by omega), Lib.hid (fun h => by cases h), HT3, hbN⟩, rfl⟩)); (case measure => (simp [intOf]; omega)))
        · obtain rfl : n = k := by omega
          have HF2 : Hid (mv = false → ∀ x ∈ l, clashR x ⟨⟨#[]⟩, it, f2, m, 0⟩ = false) := Lib.hid fun h x hx => by
            obtain ⟨h2, h3⟩ := HM.out h
            obtain ⟨j, hj⟩ := List.mem_iff_getElem?.1 hx
            rw [h2]
            exact h3 j x (by rw [← Hl.out]; exact (List.getElem?_eq_some_iff.1 hj).1) hj
          have hdec : 2 * (1250 - f2).toNat + bI mv < 2 * (1250 - f).toNat + 1 := by
            cases mv with
            | false => have := (HM.out rfl).1; subst this; show 2 * _ + 0 < _; omega
            | true => have := hmf rfl; show 2 * _ + 1 < _; omega
          clear HM hmf
          go_wp2
          first | (refine ⟨⟨f2, mv, by omega, hf2, rfl, rfl, HT2, HF2, hbi⟩, ?_⟩; (simp only [intOf, boolOf, bI]; exact hdec)) | (go_roundw; (case rel => first | exact ⟨f2, mv, by omega, hf2, rfl, rfl, HT2, HF2, hbi⟩ | ((try refine ⟨trivial, ?_⟩); (repeat apply Exists.intro); exact ⟨⟨f2, mv, by omega, hf2, rfl, rfl, HT2, HF2, hbi⟩, rfl⟩)); (case measure => (simp only [intOf, boolOf, bI]; exact hdec)))
end Go.Proofs.YthfedegmplmgfaaGreatDoor
