/- Reading: Rental. -/
import Derived.Test.YthfedegmplmgfaaGreatDoorRows
import Derived.Test.YthfedegmplmgfaaGreatDoorWords3
import Derived.Test.YthfedegmplmgfaaGreatDoorCRental
import Derived.Test.YthfedegmplmgfaaGreatDoorRes
import Derived.Test.YthfedegmplmgfaaGreatDoorRng
import Derived.Deep.RegionHeld3
namespace Go.Proofs.YthfedegmplmgfaaGreatDoor
set_option linter.unusedVariables false
set_option linter.unusedSimpArgs false
set_option linter.unusedSectionVars false
open Go.RowKit

def okRental5 (p q : ByteArray) (n0 n1 n2 : Int) : Bool := nameB p && (nameB q && (inB n0 0 100000 && (inB n1 1 120 && inB n2 0 10000000)))
def okRental (x : DRental) : Bool := okRental5 x.fId x.fItem x.fDay x.fMonths x.fFee
theorem okRental_names (p q : ByteArray) (n0 n1 n2 : Int) (h : okRental5 p q n0 n1 n2 = true) : nameB p = true ∧ nameB q = true := by
  unfold okRental5 at h
  simp only [Bool.and_eq_true] at h
  exact ⟨h.1, h.2.1⟩
theorem okRental_range (p q : ByteArray) (n0 n1 n2 : Int) (h : okRental5 p q n0 n1 n2 = true) : ∀ n ∈ [n0, n1, n2], -1000000000000 ≤ n ∧ n ≤ 1000000000000 := by
  unfold okRental5 inB at h
  simp only [Bool.and_eq_true, decide_eq_true_eq] at h
  intro n hn
  simp only [List.mem_cons, List.mem_nil_iff, or_false] at hn
  rcases hn with rfl | rfl | rfl <;> omega
theorem rental_name_size {s : ByteArray} (h : nameB s = true) : s.size ≤ 10 := by
  unfold nameB at h
  rw [Bool.and_eq_true, Bool.and_eq_true] at h
  have := of_decide_eq_true h.2.2
  omega
theorem rental_word_size {s p : ByteArray} {k : Nat} (h : (wordsB s)[k]? = some p) : p.size ≤ s.size := by
  have h1 := List.mem_of_getElem? h
  unfold wordsB at h1
  obtain ⟨j, hj⟩ := List.mem_iff_getElem?.1 (List.mem_filter.1 h1).1
  exact piece_size hj
def rentalO (s : ByteArray) : Option DRental := (o3 okRental5 s).map fun y => ⟨y.1, y.2.1, y.2.2.1, y.2.2.2.1, y.2.2.2.2⟩
def rentalV (s : ByteArray) : DRental := (rentalO s).getD ⟨⟨#[]⟩, ⟨#[]⟩, 0, 0, 0⟩
def rentalOk (s : ByteArray) : Bool := (rentalO s).isSome
def rentalText (x : DRental) : ByteArray := text3 okRental5 x.fId x.fItem x.fDay x.fMonths x.fFee
theorem rentalO_of {s : ByteArray} (h : o3 okRental5 s = none) : rentalO s = none := by unfold rentalO; rw [h]; rfl
theorem rentalO_is {s p q : ByteArray} {n0 n1 n2 : Int} (h : o3 okRental5 s = some (p, q, n0, n1, n2)) : rentalO s = some ⟨p, q, n0, n1, n2⟩ := by unfold rentalO; rw [h]; rfl

set_option maxHeartbeats 1000000 in
theorem s_l21OneW (b off : Nat) (x : DRental) (w : World) (hg : x.fId.size ≤ maxLen) (hg2 : x.fItem.size ≤ maxLen) (hc : w.rangeAt b off (rentalE.cells x)) :
    Calls Tryz.prog 31 #[.pointer (some ⟨b, off, none⟩)] w fun e w' => e = .returned (.bool (okRental x)) ∧ w = w' := by
  have hc0 := hc 0 _ rfl
  have hc1 := hc 1 _ rfl
  have hc2 := hc 2 _ rfl
  have hc3 := hc 3 _ rfl
  have hc4 := hc 4 _ rfl
  rw [Nat.add_zero] at hc0
  clear hc
  go_enter Tryz.func31, Tryz.ntmps31
  go_wp2_with fail
  refine (s_l01Name x.fId _ (by assumption)).mono ?_
  rintro e w' ⟨rfl, rfl⟩
  rcases h0 : nameB x.fId with _ | _
  · have E : Hid (okRental x = false) := Lib.hid (by unfold okRental okRental5; rw [h0]; rfl)
    clear h0
    go_wp2
    go_ret
    exact ⟨ret_bool E.out.symm, rfl⟩
  · have H0 := Lib.hid h0; clear h0
    go_wp2_with fail
    refine (s_l01Name x.fItem _ (by assumption)).mono ?_
    rintro e w' ⟨rfl, rfl⟩
    rcases h1 : nameB x.fItem with _ | _
    · have E : Hid (okRental x = false) := Lib.hid (by unfold okRental okRental5; rw [H0.out, h1]; rfl)
      clear h1
      go_wp2
      go_ret
      exact ⟨ret_bool E.out.symm, rfl⟩
    · have H1 := Lib.hid h1; clear h1
      go_wp2_with fail
      refine (s_l21Day _ _).mono ?_
      rintro e w' ⟨rfl, rfl⟩
      rcases h2 : inB x.fDay 0 100000 with _ | _
      · have E : Hid (okRental x = false) := Lib.hid (by unfold okRental okRental5; rw [H0.out, H1.out, h2]; rfl)
        clear h2
        go_wp2
        go_ret
        exact ⟨ret_bool E.out.symm, rfl⟩
      · have H2 := Lib.hid h2; clear h2
        go_wp2_with fail
        refine (s_l00In _ _ _ _).mono ?_
        rintro e w' ⟨rfl, rfl⟩
        rcases h3 : inB x.fMonths 1 120 with _ | _
        · have E : Hid (okRental x = false) := Lib.hid (by unfold okRental okRental5; rw [H0.out, H1.out, H2.out, h3]; rfl)
          clear h3
          go_wp2
          go_ret
          exact ⟨ret_bool E.out.symm, rfl⟩
        · have H3 := Lib.hid h3; clear h3
          go_wp2_with fail
          refine (s_l21Money _ _).mono ?_
          rintro e w' ⟨rfl, rfl⟩
          go_wp2
          go_ret
          exact ⟨ret_bool (by unfold okRental okRental5; rw [H0.out, H1.out, H2.out, H3.out]; rfl), rfl⟩
theorem s_l21One (b off : Nat) (x : DRental) (w : World) (hg : x.fId.size ≤ maxLen) (hg2 : x.fItem.size ≤ maxLen) (hc : w.rangeAt b off (rentalE.cells x)) :
    Calls Tryz.prog 31 #[.pointer (some ⟨b, off, none⟩)] w fun e w' => e = .returned (.bool (okRental x)) ∧ Below w.heap.size w w' :=
  (s_l21OneW b off x w hg hg2 hc).mono fun e w' hh => ⟨hh.1, hh.2 ▸ Below.refl _ _⟩

set_option maxHeartbeats 1000000 in
theorem i_validRental (x : DRental) (w : World) (hg : x.fId.size ≤ maxLen) (hg2 : x.fItem.size ≤ maxLen) :
    Calls Tryz.prog 29 #[.agg #[.string x.fId, .string x.fItem, .int .i64 x.fDay, .int .i64 x.fMonths, .int .i64 x.fFee]] w (RetB (okRental x) w) := by
  go_enter Tryz.func29, Tryz.ntmps29
  go_wp2_with fail
  refine (i_IsName x.fId _ (by assumption)).mono ?_
  rintro e w' ⟨rfl, rfl⟩
  rcases h0 : nameB x.fId with _ | _
  · have E : Hid (okRental x = false) := Lib.hid (by unfold okRental okRental5; rw [h0]; rfl)
    clear h0
    go_wp2
    go_ret
    exact ⟨ret_bool E.out.symm, by (repeat (first | exact Below.refl _ _ | assumption | refine Below.drew ?_ | refine Below.alloc ?_ (by first | omega | (simp; done) | (simp; omega) | exact Below.size (by assumption)) _ | refine Below.setCell ?_ (by first | omega | (simp; done) | (simp; omega)) _))⟩
  · have H0 := Lib.hid h0; clear h0
    go_wp2_with fail
    refine (i_IsName x.fItem _ (by assumption)).mono ?_
    rintro e w' ⟨rfl, rfl⟩
    rcases h1 : nameB x.fItem with _ | _
    · have E : Hid (okRental x = false) := Lib.hid (by unfold okRental okRental5; rw [H0.out, h1]; rfl)
      clear h1
      go_wp2
      go_ret
      exact ⟨ret_bool E.out.symm, by (repeat (first | exact Below.refl _ _ | assumption | refine Below.drew ?_ | refine Below.alloc ?_ (by first | omega | (simp; done) | (simp; omega) | exact Below.size (by assumption)) _ | refine Below.setCell ?_ (by first | omega | (simp; done) | (simp; omega)) _))⟩
    · have H1 := Lib.hid h1; clear h1
      go_wp2_with fail
      refine (i_isRentDay _ _).mono ?_
      rintro e w' ⟨rfl, rfl⟩
      rcases h2 : inB x.fDay 0 100000 with _ | _
      · have E : Hid (okRental x = false) := Lib.hid (by unfold okRental okRental5; rw [H0.out, H1.out, h2]; rfl)
        clear h2
        go_wp2
        go_ret
        exact ⟨ret_bool E.out.symm, by (repeat (first | exact Below.refl _ _ | assumption | refine Below.drew ?_ | refine Below.alloc ?_ (by first | omega | (simp; done) | (simp; omega) | exact Below.size (by assumption)) _ | refine Below.setCell ?_ (by first | omega | (simp; done) | (simp; omega)) _))⟩
      · have H2 := Lib.hid h2; clear h2
        go_wp2_with fail
        refine (i_isMonths _ _).mono ?_
        rintro e w' ⟨rfl, rfl⟩
        rcases h3 : inB x.fMonths 1 120 with _ | _
        · have E : Hid (okRental x = false) := Lib.hid (by unfold okRental okRental5; rw [H0.out, H1.out, H2.out, h3]; rfl)
          clear h3
          go_wp2
          go_ret
          exact ⟨ret_bool E.out.symm, by (repeat (first | exact Below.refl _ _ | assumption | refine Below.drew ?_ | refine Below.alloc ?_ (by first | omega | (simp; done) | (simp; omega) | exact Below.size (by assumption)) _ | refine Below.setCell ?_ (by first | omega | (simp; done) | (simp; omega)) _))⟩
        · have H3 := Lib.hid h3; clear h3
          go_wp2_with fail
          refine (i_isMoney _ _).mono ?_
          rintro e w' ⟨rfl, rfl⟩
          go_wp2
          go_ret
          exact ⟨ret_bool (by unfold okRental okRental5; rw [H0.out, H1.out, H2.out, H3.out]; rfl), by (repeat (first | exact Below.refl _ _ | assumption | refine Below.drew ?_ | refine Below.alloc ?_ (by first | omega | (simp; done) | (simp; omega) | exact Below.size (by assumption)) _ | refine Below.setCell ?_ (by first | omega | (simp; done) | (simp; omega)) _))⟩

set_option maxRecDepth 100000 in
set_option maxHeartbeats 2000000 in
theorem i_RentalText (x : DRental) (w : World) (hg : x.fId.size ≤ 1048576) (hg2 : x.fItem.size ≤ 1048576) (hL : LibW w) :
    Calls Tryz.prog 15 #[.agg #[.string x.fId, .string x.fItem, .int .i64 x.fDay, .int .i64 x.fMonths, .int .i64 x.fFee]] w fun e w' => e = .returned (.string (rentalText x)) ∧ Below w.heap.size w w' := by
  have hR := range_new w #[.string x.fId, .string x.fItem, .int .i64 x.fDay, .int .i64 x.fMonths, .int .i64 x.fFee] 37
  have hb0 : Below w.heap.size w (w.alloc (.cells #[.string x.fId, .string x.fItem, .int .i64 x.fDay, .int .i64 x.fMonths, .int .i64 x.fFee] 37)) := (Below.refl _ _).alloc (Nat.le_refl _) _
  obtain ⟨W0, hW0⟩ : ∃ W0, w.alloc (.cells #[.string x.fId, .string x.fItem, .int .i64 x.fDay, .int .i64 x.fMonths, .int .i64 x.fFee] 37) = W0 := ⟨_, rfl⟩
  have hsz : W0.heap.size = w.heap.size + 1 := by rw [← hW0]; simp
  rw [hW0] at hR hb0
  have hc0 := hR 0 _ rfl
  have hc1 := hR 1 _ rfl
  have hc2 := hR 2 _ rfl
  have hc3 := hR 3 _ rfl
  have hc4 := hR 4 _ rfl
  simp only [Nat.zero_add] at hc0 hc1 hc2 hc3 hc4
  clear hR
  go_enter Tryz.func15, Tryz.ntmps15
  go_wp2_with fail
  try rw [hW0]
  clear hW0
  refine (i_validRental x _ (by unfold maxLen; omega) (by unfold maxLen; omega)).mono ?_
  rintro e w1 ⟨rfl, hb⟩
  replace hc0 := cell_later hb hc0
  replace hc1 := cell_later hb hc1
  replace hc2 := cell_later hb hc2
  replace hc3 := cell_later hb hc3
  replace hc4 := cell_later hb hc4
  have hbF := hb0.trans (hb.mono hb0.size)
  have hz1 := hb.size
  rw [hsz] at hz1
  rcases hk : okRental x with _ | _
  · have E : Hid (rentalText x = ⟨#[]⟩) := Lib.hid (by unfold rentalText text3; rw [if_neg (by unfold okRental at hk; rw [hk]; simp)])
    clear hk
    go_wp2
    go_ret
    exact ⟨by rw [E.out]; rfl, hbF⟩
  · have E : Hid (rentalText x = x.fId ++ ⟨#[32]⟩ ++ (x.fItem ++ ⟨#[32]⟩ ++ ofL (textL [x.fDay, x.fMonths, x.fFee]))) := Lib.hid (by unfold rentalText text3; exact if_pos hk)
    have hn := okRental_names _ _ _ _ _ hk
    have hr := okRental_range _ _ _ _ _ hk
    have s1 := rental_name_size hn.1
    have s2 := rental_name_size hn.2
    have hz : (x.fItem ++ ⟨#[32]⟩ ++ ofL (textL [x.fDay, x.fMonths, x.fFee])).size ≤ 2000 := by
      rw [ba_app_size, ba_app_size, ofL_size]
      have := textL_len hr (by simp)
      show _ + 1 + _ ≤ _
      omega
    obtain ⟨U, hU⟩ : ∃ U, x.fItem ++ ⟨#[32]⟩ ++ ofL (textL [x.fDay, x.fMonths, x.fFee]) = U := ⟨_, rfl⟩
    have hcall : ∀ W A c, Rd intE W A 3 [x.fDay, x.fMonths, x.fFee] → LibW W → Calls Tryz.prog 36 #[.string x.fItem, .slice A 3 c] W fun e w' => e = .returned (.string U) ∧ Below W.heap.size W w' := fun W A c h1 h2 => by
      rw [← hU]
      exact i_named x.fItem A 3 c _ W (by omega) h1 (by omega) hr h2
    rw [hU] at hz E
    have HC := Lib.hid hcall
    have q1 := fun W => run_string_add_sum (P := Tryz.prog) W x.fId ⟨#[32]⟩ (by show _ + 1 ≤ _; omega)
    have q2 := fun W => run_string_add_sum (P := Tryz.prog) W (x.fId ++ ⟨#[32]⟩) U (by rw [ba_app_size]; show _ + 1 + _ ≤ _; omega)
    have hlt : w.heap.size < w1.heap.size := by omega
    have hk0 : ∀ o, (w1.alloc o).drew.cell? ⟨w.heap.size, 0, none⟩ = _ := fun o => (World.cell?_alloc_lt w1 o _ hlt).trans hc0
    have hk1 : ∀ o, (w1.alloc o).drew.cell? ⟨w.heap.size, 1, none⟩ = _ := fun o => (World.cell?_alloc_lt w1 o _ hlt).trans hc1
    have hk2 : ∀ o, (w1.alloc o).drew.cell? ⟨w.heap.size, 2, none⟩ = _ := fun o => (World.cell?_alloc_lt w1 o _ hlt).trans hc2
    have hk3 : ∀ o, (w1.alloc o).drew.cell? ⟨w.heap.size, 3, none⟩ = _ := fun o => (World.cell?_alloc_lt w1 o _ hlt).trans hc3
    have hk4 : ∀ o, (w1.alloc o).drew.cell? ⟨w.heap.size, 4, none⟩ = _ := fun o => (World.cell?_alloc_lt w1 o _ hlt).trans hc4
    clear hk hn hr hU hcall hb hb0 hsz
    go_wp2_with fail
    go_region_held3 (fun w' => w'.cell? ⟨w.heap.size, 0, none⟩ = some (.string x.fId) ∧ w'.cell? ⟨w.heap.size, 1, none⟩ = some (.string x.fItem) ∧ w'.cell? ⟨w.heap.size, 2, none⟩ = some (.int .i64 x.fDay) ∧ w'.cell? ⟨w.heap.size, 3, none⟩ = some (.int .i64 x.fMonths) ∧ w'.cell? ⟨w.heap.size, 4, none⟩ = some (.int .i64 x.fFee) ∧ Below w.heap.size w w')
      (first | exact ⟨hc0, hc1, hc2, hc3, hc4, hbF.drew⟩ | exact ⟨hk0 _, hk1 _, hk2 _, hk3 _, hk4 _, (hbF.alloc hbF.size _).drew⟩ | (go_split_ands; exact ⟨cell_later hb2 (by assumption), cell_later hb2 (by assumption), cell_later hb2 (by assumption), cell_later hb2 (by assumption), cell_later hb2 (by assumption), Below.trans (by assumption) (hb2.mono (Below.size (by assumption)))⟩) | (go_split_ands; exact ⟨by assumption, by assumption, by assumption, by assumption, by assumption, by assumption⟩))
      (first | (go_at_call 36; refine (HC.out _ _ _ (Rd.lit1 intE (l := [x.fDay, x.fMonths, x.fFee]) (w := w1.drew) (cs := #[.int .i64 x.fDay, .int .i64 x.fMonths, .int .i64 x.fFee]) rfl rfl rfl) (hL.below (hbF.alloc hbF.size _).drew)).mono ?_; rintro e w2 ⟨rfl, hb2⟩))
    rename_i hh
    obtain ⟨_, _, _, _, _, hbE⟩ := hh
    clear q1 q2
    go_wp2
    go_ret
    exact ⟨by rw [E.out]; rfl, hbE⟩

set_option maxRecDepth 100000 in
set_option maxHeartbeats 4000000 in
theorem I_ReadRental (s : ByteArray) (w : World) (hs : s.size ≤ 1048576) (hL : LibW w) :
    Calls Tryz.prog 14 #[.string s] w fun e w' => ∃ x : DRental, Hid (x = rentalV s) ∧ e = .returned (.tuple #[.agg #[.string x.fId, .string x.fItem, .int .i64 x.fDay, .int .i64 x.fMonths, .int .i64 x.fFee], .bool (rentalOk s)]) ∧ Below w.heap.size w w' := by
  have hR := range_new w #[.string ⟨#[]⟩, .string ⟨#[]⟩, .int .i64 0, .int .i64 0, .int .i64 0] 37
  have hfr := fun j => new_free w #[.string ⟨#[]⟩, .string ⟨#[]⟩, .int .i64 0, .int .i64 0, .int .i64 0] 37 j
  have hb0 : Below w.heap.size w (w.alloc (.cells #[.string ⟨#[]⟩, .string ⟨#[]⟩, .int .i64 0, .int .i64 0, .int .i64 0] 37)) := (Below.refl _ _).alloc (Nat.le_refl _) _
  obtain ⟨W0, hW0⟩ : ∃ W0, w.alloc (.cells #[.string ⟨#[]⟩, .string ⟨#[]⟩, .int .i64 0, .int .i64 0, .int .i64 0] 37) = W0 := ⟨_, rfl⟩
  have hsz : W0.heap.size = w.heap.size + 1 := by rw [← hW0]; simp
  rw [hW0] at hR hfr hb0
  go_enter Tryz.func14, Tryz.ntmps14
  go_wp2_with fail
  try rw [hW0]
  clear hW0
  refine (i_SplitWords s _ hs (hL.below hb0)).mono ?_
  rintro e w1 ⟨A, n, c, hl, hn, ho, rfl, hb⟩
  have hgl : GL strE 9 W0.heap.size w1 (.slice A n c) (wordsB s) := by unfold GL; rw [hl]; exact ho
  have hbF := hb0.trans (hb.mono hb0.size)
  have hsz1 := hb.size
  rw [hsz] at hsz1
  have hR1 := range_below (B := 0) hR hb
  have hr0 := hR1 0 _ rfl
  have hf0 := free_later (hfr 0) (by simp; omega) hb
  have hr1 := hR1 1 _ rfl
  have hf1 := free_later (hfr 1) (by simp; omega) hb
  have hr2 := hR1 2 _ rfl
  have hf2 := free_later (hfr 2) (by simp; omega) hb
  have hr3 := hR1 3 _ rfl
  have hf3 := free_later (hfr 3) (by simp; omega) hb
  have hr4 := hR1 4 _ rfl
  have hf4 := free_later (hfr 4) (by simp; omega) hb
  simp only [Nat.zero_add] at hr0 hr1 hr2 hr3 hr4
  clear ho hR hfr hR1
  by_cases h3 : n = 3
  · subst h3
    have hrd := hgl.rd
    obtain ⟨b, off, p0, hAe, hp0, hcs0⟩ := hrd.get (k := 0) (by omega)
    subst hAe
    obtain ⟨b1, off1, p1, hAe1, hp1, hcs1⟩ := hrd.get (k := 1) (by omega)
    cases hAe1
    obtain ⟨b2, off2, p2, hAe2, hp2, hcs2⟩ := hrd.get (k := 2) (by omega)
    cases hAe2
    have hc0 := hcs0 0 (.string p0) rfl
    have hc1 := hcs1 0 (.string p1) rfl
    have hc2 := hcs2 0 (.string p2) rfl
    simp only [strE, Nat.mul_one, Nat.zero_mul, Nat.add_zero] at hc0 hc1 hc2
    have hbb : b < w1.heap.size := (hgl.own.2.lt b rfl).2
    have hlst : wordsB s = [p0, p1, p2] := by
      match hh : wordsB s, hl with
      | [x, y, z], _ =>
        rw [hh] at hp0 hp1 hp2
        simp at hp0 hp1 hp2
        rw [hp0, hp1, hp2]
    have HC := Lib.hid hlst
    have hz0 := rental_word_size hp0
    have hz1 := rental_word_size hp1
    have hz2 := rental_word_size hp2
    clear hcs0 hcs1 hcs2 hp0 hp1 hp2 hlst hl hrd hgl
    go_wp2_with fail
    refine (i_ReadList p2 _ (by omega) (hL.below hbF)).mono ?_
    rintro e w2 (⟨hno, A2, n2, c2, rfl, hb2⟩ | ⟨ns, A2, c2, hsome, rfl, hg2, hb2⟩)
    · have E : Hid (rentalO s = none) := Lib.hid (rentalO_of (o3_wbad okRental_names HC.out fun ns h => by rw [hno] at h; cases h))
      clear hno
      replace hbF := hbF.trans (hb2.mono hbF.size)
      replace hr0 := cell_later hb2 hr0
      replace hf0 := free_later hf0 (by simp; omega) hb2
      replace hr1 := cell_later hb2 hr1
      replace hf1 := free_later hf1 (by simp; omega) hb2
      replace hr2 := cell_later hb2 hr2
      replace hf2 := free_later hf2 (by simp; omega) hb2
      replace hr3 := cell_later hb2 hr3
      replace hf3 := free_later hf3 (by simp; omega) hb2
      replace hr4 := cell_later hb2 hr4
      replace hf4 := free_later hf4 (by simp; omega) hb2
      have HF := set_cells (w := w2) (g := w.heap.size) [.string ⟨#[]⟩, .string ⟨#[]⟩, .int .i64 0, .int .i64 0, .int .i64 0] 0 (fun j hj => by
        match j, hj with
        | 0, _ => exact ⟨_, hr0⟩
        | 1, _ => exact ⟨_, hr1⟩
        | 2, _ => exact ⟨_, hr2⟩
        | 3, _ => exact ⟨_, hr3⟩
        | 4, _ => exact ⟨_, hr4⟩)
      have hbW := below_setCells (Nat.le_refl w.heap.size) [.string ⟨#[]⟩, .string ⟨#[]⟩, .int .i64 0, .int .i64 0, .int .i64 0] 0 hbF
      go_wp2
      change bodyPost _ _ _ _ _ (w2.setCells w.heap.size 0 [.string ⟨#[]⟩, .string ⟨#[]⟩, .int .i64 0, .int .i64 0, .int .i64 0])
      generalize w2.setCells w.heap.size 0 [.string ⟨#[]⟩, .string ⟨#[]⟩, .int .i64 0, .int .i64 0, .int .i64 0] = Wf at *
      have qf0 := HF 0 _ rfl
      have qf1 := HF 1 _ rfl
      have qf2 := HF 2 _ rfl
      have qf3 := HF 3 _ rfl
      have qf4 := HF 4 _ rfl
      simp only [Nat.zero_add] at qf0 qf1 qf2 qf3 qf4
      exact bodyPost_ret (v := .tuple #[.agg #[.string ⟨#[]⟩, .string ⟨#[]⟩, .int .i64 0, .int .i64 0, .int .i64 0], .bool false]) (by simp [results, Tryz.results14, go_sem, qf0, qf1, qf2, qf3, qf4]) rfl ⟨⟨⟨#[]⟩, ⟨#[]⟩, 0, 0, 0⟩, Lib.hid (by unfold rentalV; rw [E.out]; rfl), by unfold rentalOk; rw [E.out]; rfl, hbW⟩
    · replace hbF := hbF.trans (hb2.mono hbF.size)
      have hzz2 := hb2.size
      have hc0' := cell_later hb2 hc0
      have hc1' := cell_later hb2 hc1
      replace hr0 := cell_later hb2 hr0
      replace hf0 := free_later hf0 (by simp; omega) hb2
      replace hr1 := cell_later hb2 hr1
      replace hf1 := free_later hf1 (by simp; omega) hb2
      replace hr2 := cell_later hb2 hr2
      replace hf2 := free_later hf2 (by simp; omega) hb2
      replace hr3 := cell_later hb2 hr3
      replace hf3 := free_later hf3 (by simp; omega) hb2
      replace hr4 := cell_later hb2 hr4
      replace hf4 := free_later hf4 (by simp; omega) hb2
      by_cases hkn : ns.length = 3
      · obtain ⟨n0, n1, n2, hns⟩ : ∃ n0 n1 n2, ns = [n0, n1, n2] := by
          match ns, hkn with
          | [n0, n1, n2], _ => exact ⟨n0, n1, n2, rfl⟩
        subst hns
        have HO := Lib.hid (o3_text okRental_names HC.out hsome)
        obtain ⟨g, rfl, hg1, hgg, hcs⟩ := hg2.ints (by simp)
        have hn0 := hcs 0 _ rfl
        have hn1 := hcs 1 _ rfl
        have hn2 := hcs 2 _ rfl
        have hbb2 : b < w2.heap.size := by omega
        have hka : ∀ o, (w2.alloc o).drew.cell? ⟨b, off, none⟩ = some (.string p0) := fun o => (World.cell?_alloc_lt w2 o _ hbb2).trans hc0'
        have hkb : ∀ o, (w2.alloc o).drew.cell? ⟨b, off + 1, none⟩ = some (.string p1) := fun o => (World.cell?_alloc_lt w2 o _ hbb2).trans hc1'
        have hk0 : ∀ o, (w2.alloc o).drew.cell? ⟨g, 0, none⟩ = some (.int .i64 n0) := fun o => (World.cell?_alloc_lt w2 o _ hgg).trans hn0
        have hk1 : ∀ o, (w2.alloc o).drew.cell? ⟨g, 1, none⟩ = some (.int .i64 n1) := fun o => (World.cell?_alloc_lt w2 o _ hgg).trans hn1
        have hk2 : ∀ o, (w2.alloc o).drew.cell? ⟨g, 2, none⟩ = some (.int .i64 n2) := fun o => (World.cell?_alloc_lt w2 o _ hgg).trans hn2
        clear hcs hg2 hsome hkn
        go_wp2_with fail
        go_region_held3 (fun w' => w'.cell? ⟨b, off, none⟩ = some (.string p0) ∧ w'.cell? ⟨b, off + 1, none⟩ = some (.string p1) ∧ w'.cell? ⟨g, 0, none⟩ = some (.int .i64 n0) ∧ w'.cell? ⟨g, 1, none⟩ = some (.int .i64 n1) ∧ w'.cell? ⟨g, 2, none⟩ = some (.int .i64 n2)) (first | exact ⟨hc0', hc1', hn0, hn1, hn2⟩ | exact ⟨hka _, hkb _, hk0 _, hk1 _, hk2 _⟩) (first | fail)
        have hbx : Below w2.heap.size w2 (w2.alloc (.cells #[.string p0, .string p1, .int .i64 n0, .int .i64 n1, .int .i64 n2] 37)).drew := ((Below.refl _ _).alloc (Nat.le_refl _) _).drew
        have hxR : (w2.alloc (.cells #[.string p0, .string p1, .int .i64 n0, .int .i64 n1, .int .i64 n2] 37)).drew.rangeAt w2.heap.size 0 (rentalE.cells ⟨p0, p1, n0, n1, n2⟩) := range_new w2 #[.string p0, .string p1, .int .i64 n0, .int .i64 n1, .int .i64 n2] 37
        obtain ⟨W2, hW2⟩ : ∃ W, (w2.alloc (.cells #[.string p0, .string p1, .int .i64 n0, .int .i64 n1, .int .i64 n2] 37)).drew = W := ⟨_, rfl⟩
        rw [hW2] at hbx hxR
        replace hr0 := cell_later hbx hr0
        replace hf0 := free_later hf0 (by simp; omega) hbx
        replace hr1 := cell_later hbx hr1
        replace hf1 := free_later hf1 (by simp; omega) hbx
        replace hr2 := cell_later hbx hr2
        replace hf2 := free_later hf2 (by simp; omega) hbx
        replace hr3 := cell_later hbx hr3
        replace hf3 := free_later hf3 (by simp; omega) hbx
        replace hr4 := cell_later hbx hr4
        replace hf4 := free_later hf4 (by simp; omega) hbx
        replace hbF := hbF.trans (hbx.mono hbF.size)
        have hzz := hbx.size
        have hy0 := hxR 0 _ rfl
        have hy1 := hxR 1 _ rfl
        have hy2 := hxR 2 _ rfl
        have hy3 := hxR 3 _ rfl
        have hy4 := hxR 4 _ rfl
        simp only [Nat.zero_add] at hy0 hy1 hy2 hy3 hy4
        clear hc0' hc1' hka hkb hn0 hn1 hn2 hk0 hk1 hk2 hbx
        rename_i hheld; clear hheld
        go_wp2_with fail
        try rw [hW2]
        clear hW2
        obtain ⟨U, hU⟩ : ∃ U, rentalText ⟨p0, p1, n0, n1, n2⟩ = U := ⟨_, rfl⟩
        have hcall := i_RentalText ⟨p0, p1, n0, n1, n2⟩ W2 (by show p0.size ≤ _; omega) (by show p1.size ≤ _; omega) (hL.below hbF)
        rw [hU] at hcall
        have HU := Lib.hid hU; clear hU
        refine hcall.mono ?_
        rintro e w3 ⟨rfl, hb3⟩
        clear hcall
        replace hr0 := cell_later hb3 hr0
        replace hf0 := free_later hf0 (by simp; omega) hb3
        replace hr1 := cell_later hb3 hr1
        replace hf1 := free_later hf1 (by simp; omega) hb3
        replace hr2 := cell_later hb3 hr2
        replace hf2 := free_later hf2 (by simp; omega) hb3
        replace hr3 := cell_later hb3 hr3
        replace hf3 := free_later hf3 (by simp; omega) hb3
        replace hr4 := cell_later hb3 hr4
        replace hf4 := free_later hf4 (by simp; omega) hb3
        replace hy0 := cell_later hb3 hy0
        replace hy1 := cell_later hb3 hy1
        replace hy2 := cell_later hb3 hy2
        replace hy3 := cell_later hb3 hy3
        replace hy4 := cell_later hb3 hy4
        replace hbF := hbF.trans (hb3.mono hbF.size)
        clear hxR
        by_cases hq : U.data.toList = s.data.toList
        · have E : Hid (rentalO s = some ⟨p0, p1, n0, n1, n2⟩) := Lib.hid (rentalO_is (by rw [HO.out, if_pos (by have := HU.out; unfold rentalText at this; rw [this]; exact hq)]))
          have ht : (U.toList == s.toList) = true := by rw [ByteArray.toList_eq, ByteArray.toList_eq, hq]; simp
          clear hq
          have HF := set_cells (w := w3) (g := w.heap.size) [.string p0, .string p1, .int .i64 n0, .int .i64 n1, .int .i64 n2] 0 (fun j hj => by
            match j, hj with
            | 0, _ => exact ⟨_, hr0⟩
            | 1, _ => exact ⟨_, hr1⟩
            | 2, _ => exact ⟨_, hr2⟩
            | 3, _ => exact ⟨_, hr3⟩
            | 4, _ => exact ⟨_, hr4⟩)
          have hbW := below_setCells (Nat.le_refl w.heap.size) [.string p0, .string p1, .int .i64 n0, .int .i64 n1, .int .i64 n2] 0 hbF
          go_wp2
          change bodyPost _ _ _ _ _ (w3.setCells w.heap.size 0 [.string p0, .string p1, .int .i64 n0, .int .i64 n1, .int .i64 n2])
          generalize w3.setCells w.heap.size 0 [.string p0, .string p1, .int .i64 n0, .int .i64 n1, .int .i64 n2] = Wf at *
          have qf0 := HF 0 _ rfl
          have qf1 := HF 1 _ rfl
          have qf2 := HF 2 _ rfl
          have qf3 := HF 3 _ rfl
          have qf4 := HF 4 _ rfl
          simp only [Nat.zero_add] at qf0 qf1 qf2 qf3 qf4
          exact bodyPost_ret (v := .tuple #[.agg #[.string p0, .string p1, .int .i64 n0, .int .i64 n1, .int .i64 n2], .bool true]) (by simp [results, Tryz.results14, go_sem, qf0, qf1, qf2, qf3, qf4]) rfl ⟨⟨p0, p1, n0, n1, n2⟩, Lib.hid (by unfold rentalV; rw [E.out]; rfl), by unfold rentalOk; rw [E.out]; rfl, hbW⟩
        · have E : Hid (rentalO s = none) := Lib.hid (rentalO_of (by rw [HO.out, if_neg (by have := HU.out; unfold rentalText at this; rw [this]; exact hq)]))
          have ht : (U.toList == s.toList) = false := by rw [ByteArray.toList_eq, ByteArray.toList_eq, beq_eq_false_iff_ne]; exact hq
          clear hq
          have HF := set_cells (w := w3) (g := w.heap.size) [.string ⟨#[]⟩, .string ⟨#[]⟩, .int .i64 0, .int .i64 0, .int .i64 0] 0 (fun j hj => by
            match j, hj with
            | 0, _ => exact ⟨_, hr0⟩
            | 1, _ => exact ⟨_, hr1⟩
            | 2, _ => exact ⟨_, hr2⟩
            | 3, _ => exact ⟨_, hr3⟩
            | 4, _ => exact ⟨_, hr4⟩)
          have hbW := below_setCells (Nat.le_refl w.heap.size) [.string ⟨#[]⟩, .string ⟨#[]⟩, .int .i64 0, .int .i64 0, .int .i64 0] 0 hbF
          go_wp2
          change bodyPost _ _ _ _ _ (w3.setCells w.heap.size 0 [.string ⟨#[]⟩, .string ⟨#[]⟩, .int .i64 0, .int .i64 0, .int .i64 0])
          generalize w3.setCells w.heap.size 0 [.string ⟨#[]⟩, .string ⟨#[]⟩, .int .i64 0, .int .i64 0, .int .i64 0] = Wf at *
          have qf0 := HF 0 _ rfl
          have qf1 := HF 1 _ rfl
          have qf2 := HF 2 _ rfl
          have qf3 := HF 3 _ rfl
          have qf4 := HF 4 _ rfl
          simp only [Nat.zero_add] at qf0 qf1 qf2 qf3 qf4
          exact bodyPost_ret (v := .tuple #[.agg #[.string ⟨#[]⟩, .string ⟨#[]⟩, .int .i64 0, .int .i64 0, .int .i64 0], .bool false]) (by simp [results, Tryz.results14, go_sem, qf0, qf1, qf2, qf3, qf4]) rfl ⟨⟨⟨#[]⟩, ⟨#[]⟩, 0, 0, 0⟩, Lib.hid (by unfold rentalV; rw [E.out]; rfl), by unfold rentalOk; rw [E.out]; rfl, hbW⟩
      · have E : Hid (rentalO s = none) := Lib.hid (rentalO_of (o3_wbad okRental_names HC.out fun ns' h => by rw [hsome] at h; cases h; exact hkn))
        have hne : ((ns.length : Int) == 3) = false := by rw [beq_eq_false_iff_ne]; omega
        clear hsome hkn hg2
        have HF := set_cells (w := w2) (g := w.heap.size) [.string ⟨#[]⟩, .string ⟨#[]⟩, .int .i64 0, .int .i64 0, .int .i64 0] 0 (fun j hj => by
          match j, hj with
          | 0, _ => exact ⟨_, hr0⟩
          | 1, _ => exact ⟨_, hr1⟩
          | 2, _ => exact ⟨_, hr2⟩
          | 3, _ => exact ⟨_, hr3⟩
          | 4, _ => exact ⟨_, hr4⟩)
        have hbW := below_setCells (Nat.le_refl w.heap.size) [.string ⟨#[]⟩, .string ⟨#[]⟩, .int .i64 0, .int .i64 0, .int .i64 0] 0 hbF
        go_wp2
        change bodyPost _ _ _ _ _ (w2.setCells w.heap.size 0 [.string ⟨#[]⟩, .string ⟨#[]⟩, .int .i64 0, .int .i64 0, .int .i64 0])
        generalize w2.setCells w.heap.size 0 [.string ⟨#[]⟩, .string ⟨#[]⟩, .int .i64 0, .int .i64 0, .int .i64 0] = Wf at *
        have qf0 := HF 0 _ rfl
        have qf1 := HF 1 _ rfl
        have qf2 := HF 2 _ rfl
        have qf3 := HF 3 _ rfl
        have qf4 := HF 4 _ rfl
        simp only [Nat.zero_add] at qf0 qf1 qf2 qf3 qf4
        exact bodyPost_ret (v := .tuple #[.agg #[.string ⟨#[]⟩, .string ⟨#[]⟩, .int .i64 0, .int .i64 0, .int .i64 0], .bool false]) (by simp [results, Tryz.results14, go_sem, qf0, qf1, qf2, qf3, qf4]) rfl ⟨⟨⟨#[]⟩, ⟨#[]⟩, 0, 0, 0⟩, Lib.hid (by unfold rentalV; rw [E.out]; rfl), by unfold rentalOk; rw [E.out]; rfl, hbW⟩
  · have E : Hid (rentalO s = none) := Lib.hid (rentalO_of (o3_wlen okRental_names (by rw [hl]; exact h3)))
    have hne : ((n : Int) == 3) = false := by rw [beq_eq_false_iff_ne]; omega
    clear hl hgl h3
    have HF := set_cells (w := w1) (g := w.heap.size) [.string ⟨#[]⟩, .string ⟨#[]⟩, .int .i64 0, .int .i64 0, .int .i64 0] 0 (fun j hj => by
      match j, hj with
      | 0, _ => exact ⟨_, hr0⟩
      | 1, _ => exact ⟨_, hr1⟩
      | 2, _ => exact ⟨_, hr2⟩
      | 3, _ => exact ⟨_, hr3⟩
      | 4, _ => exact ⟨_, hr4⟩)
    have hbW := below_setCells (Nat.le_refl w.heap.size) [.string ⟨#[]⟩, .string ⟨#[]⟩, .int .i64 0, .int .i64 0, .int .i64 0] 0 hbF
    go_wp2
    change bodyPost _ _ _ _ _ (w1.setCells w.heap.size 0 [.string ⟨#[]⟩, .string ⟨#[]⟩, .int .i64 0, .int .i64 0, .int .i64 0])
    generalize w1.setCells w.heap.size 0 [.string ⟨#[]⟩, .string ⟨#[]⟩, .int .i64 0, .int .i64 0, .int .i64 0] = Wf at *
    have qf0 := HF 0 _ rfl
    have qf1 := HF 1 _ rfl
    have qf2 := HF 2 _ rfl
    have qf3 := HF 3 _ rfl
    have qf4 := HF 4 _ rfl
    simp only [Nat.zero_add] at qf0 qf1 qf2 qf3 qf4
    exact bodyPost_ret (v := .tuple #[.agg #[.string ⟨#[]⟩, .string ⟨#[]⟩, .int .i64 0, .int .i64 0, .int .i64 0], .bool false]) (by simp [results, Tryz.results14, go_sem, qf0, qf1, qf2, qf3, qf4]) rfl ⟨⟨⟨#[]⟩, ⟨#[]⟩, 0, 0, 0⟩, Lib.hid (by unfold rentalV; rw [E.out]; rfl), by unfold rentalOk; rw [E.out]; rfl, hbW⟩
end Go.Proofs.YthfedegmplmgfaaGreatDoor
