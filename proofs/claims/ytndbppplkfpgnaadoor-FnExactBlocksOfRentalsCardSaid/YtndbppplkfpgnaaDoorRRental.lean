/- Reading: Rental. -/
import Derived.Test.YtndbppplkfpgnaaDoorRows
import Derived.Test.YtndbppplkfpgnaaDoorWords3
import Derived.Test.YtndbppplkfpgnaaDoorCRental
import Derived.Test.YtndbppplkfpgnaaDoorRes
import Derived.Test.YtndbppplkfpgnaaDoorRng
import Derived.Deep.RegionHeld3
namespace Go.Proofs.YtndbppplkfpgnaaDoor
set_option linter.unusedVariables false
set_option linter.unusedSimpArgs false
set_option linter.unusedSectionVars false
open Go.RowKit

def okRental5 (p q : ByteArray) (n0 n1 n2 : Int) : Bool := nameB p && (nameB q && (inB n0 0 100000 && (inB n1 1 120 && inB n2 0 10000000)))
def okRental (x : DRental) : Bool := okRental5 x.fId x.fItem x.fDay x.fMonths x.fFee
theorem okRental_names (p q : ByteArray) (n0 n1 n2 : Int) (h : okRental5 p q n0 n1 n2 = true) : nameB p = true ∧ nameB q = true := by
  unfold okRental5 at h
  simp only [Bool.and_eq_true] at h
  exact ⟨h.1, h.2.1⟩
theorem okRental_range (p q : ByteArray) (n0 n1 n2 : Int) (h : okRental5 p q n0 n1 n2 = true) : ∀ n ∈ [n0, n1, n2], -1000000000000 ≤ n ∧ n ≤ 1000000000000 := by
  unfold okRental5 inB at h
  simp only [Bool.and_eq_true, decide_eq_true_eq] at h
  intro n hn
  simp only [List.mem_cons, List.mem_nil_iff, or_false] at hn
  rcases hn with rfl | rfl | rfl <;> omega
theorem rental_name_size {s : ByteArray} (h : nameB s = true) : s.size ≤ 10 := by
  unfold nameB at h
  rw [Bool.and_eq_true, Bool.and_eq_true] at h
  have := of_decide_eq_true h.2.2
  omega
theorem rental_word_size {s p : ByteArray} {k : Nat} (h : (wordsB s)[k]? = some p) : p.size ≤ s.size := by
  have h1 := List.mem_of_getElem? h
  unfold wordsB at h1
  obtain ⟨j, hj⟩ := List.mem_iff_getElem?.1 (List.mem_filter.1 h1).1
  exact piece_size hj
def rentalO (s : ByteArray) : Option DRental := (o3 okRental5 s).map fun y => ⟨y.1, y.2.1, y.2.2.1, y.2.2.2.1, y.2.2.2.2⟩
def rentalV (s : ByteArray) : DRental := (rentalO s).getD ⟨⟨#[]⟩, ⟨#[]⟩, 0, 0, 0⟩
def rentalOk (s : ByteArray) : Bool := (rentalO s).isSome
def rentalText (x : DRental) : ByteArray := text3 okRental5 x.fId x.fItem x.fDay x.fMonths x.fFee
theorem rentalO_of {s : ByteArray} (h : o3 okRental5 s = none) : rentalO s = none := by unfold rentalO; rw [h]; rfl
theorem rentalO_is {s p q : ByteArray} {n0 n1 n2 : Int} (h : o3 okRental5 s = some (p, q, n0, n1, n2)) : rentalO s = some ⟨p, q, n0, n1, n2⟩ := by unfold rentalO; rw [h]; rfl

set_option maxHeartbeats 1000000 in
theorem s_l21OneW (b off : Nat) (x : DRental) (w : World) (hg : x.fId.size ≤ maxLen) (hg2 : x.fItem.size ≤ maxLen) (hc : w.rangeAt b off (rentalE.cells x)) :
    Calls Tryd.prog 22 #[.pointer (some ⟨b, off, none⟩)] w fun e w' => e = .returned (.bool (okRental x)) ∧ w = w' := by
  have hc0 := hc 0 _ rfl
  have hc1 := hc 1 _ rfl
  have hc2 := hc 2 _ rfl
  have hc3 := hc 3 _ rfl
  have hc4 := hc 4 _ rfl
  rw [Nat.add_zero] at hc0
  clear hc
  go_enter Tryd.func22, Tryd.ntmps22
  go_wp2_with fail
  refine (s_l01Name x.fId _ (by assumption)).mono ?_
  rintro e w' ⟨rfl, rfl⟩
  rcases h0 : nameB x.fId with _ | _
  · have E : Hid (okRental x = false) := Lib.hid (by unfold okRental okRental5; rw [h0]; rfl)
    clear h0
    go_wp2
    go_ret
    exact ⟨ret_bool E.out.symm, rfl⟩
  · have H0 := Lib.hid h0; clear h0
    go_wp2_with fail
    refine (s_l01Name x.fItem _ (by assumption)).mono ?_
    rintro e w' ⟨rfl, rfl⟩
    rcases h1 : nameB x.fItem with _ | _
    · have E : Hid (okRental x = false) := Lib.hid (by unfold okRental okRental5; rw [H0.out, h1]; rfl)
      clear h1
      go_wp2
      go_ret
      exact ⟨ret_bool E.out.symm, rfl⟩
    · have H1 := Lib.hid h1; clear h1
      go_wp2_with fail
      refine (s_l21Day _ _).mono ?_
      rintro e w' ⟨rfl, rfl⟩
      rcases h2 : inB x.fDay 0 100000 with _ | _
      · have E : Hid (okRental x = false) := Lib.hid (by unfold okRental okRental5; rw [H0.out, H1.out, h2]; rfl)
        clear h2
        go_wp2
        go_ret
        exact ⟨ret_bool E.out.symm, rfl⟩
      · have H2 := Lib.hid h2; clear h2
        go_wp2_with fail
        refine (s_l00In _ _ _ _).mono ?_
        rintro e w' ⟨rfl, rfl⟩
        rcases h3 : inB x.fMonths 1 120 with _ | _
        · have E : Hid (okRental x = false) := Lib.hid (by unfold okRental okRental5; rw [H0.out, H1.out, H2.out, h3]; rfl)
          clear h3
          go_wp2
          go_ret
          exact ⟨ret_bool E.out.symm, rfl⟩
        · have H3 := Lib.hid h3; clear h3
          go_wp2_with fail
          refine (s_l21Money _ _).mono ?_
          rintro e w' ⟨rfl, rfl⟩
          go_wp2
          go_ret
          exact ⟨ret_bool (by unfold okRental okRental5; rw [H0.out, H1.out, H2.out, H3.out]; rfl), rfl⟩
theorem s_l21One (b off : Nat) (x : DRental) (w : World) (hg : x.fId.size ≤ maxLen) (hg2 : x.fItem.size ≤ maxLen) (hc : w.rangeAt b off (rentalE.cells x)) :
    Calls Tryd.prog 22 #[.pointer (some ⟨b, off, none⟩)] w fun e w' => e = .returned (.bool (okRental x)) ∧ Below w.heap.size w w' :=
  (s_l21OneW b off x w hg hg2 hc).mono fun e w' hh => ⟨hh.1, hh.2 ▸ Below.refl _ _⟩

set_option maxHeartbeats 1000000 in
theorem i_validRental (x : DRental) (w : World) (hg : x.fId.size ≤ maxLen) (hg2 : x.fItem.size ≤ maxLen) :
    Calls Tryd.prog 24 #[.agg #[.string x.fId, .string x.fItem, .int .i64 x.fDay, .int .i64 x.fMonths, .int .i64 x.fFee]] w (RetB (okRental x) w) := by
  go_enter Tryd.func24, Tryd.ntmps24
  go_wp2_with fail
  refine (i_IsName x.fId _ (by assumption)).mono ?_
  rintro e w' ⟨rfl, rfl⟩
  rcases h0 : nameB x.fId with _ | _
  · have E : Hid (okRental x = false) := Lib.hid (by unfold okRental okRental5; rw [h0]; rfl)
    clear h0
    go_wp2
    go_ret
    exact ⟨ret_bool E.out.symm, by (repeat (first | exact Below.refl _ _ | assumption | refine Below.drew ?_ | refine Below.alloc ?_ (by first | omega | (simp; done) | (simp; omega) | exact Below.size (by assumption)) _ | refine Below.setCell ?_ (by first | omega | (simp; done) | (simp; omega)) _))⟩
  · have H0 := Lib.hid h0; clear h0
    go_wp2_with fail
    refine (i_IsName x.fItem _ (by assumption)).mono ?_
    rintro e w' ⟨rfl, rfl⟩
    rcases h1 : nameB x.fItem with _ | _
    · have E : Hid (okRental x = false) := Lib.hid (by unfold okRental okRental5; rw [H0.out, h1]; rfl)
      clear h1
      go_wp2
      go_ret
      exact ⟨ret_bool E.out.symm, by (repeat (first | exact Below.refl _ _ | assumption | refine Below.drew ?_ | refine Below.alloc ?_ (by first | omega | (simp; done) | (simp; omega) | exact Below.size (by assumption)) _ | refine Below.setCell ?_ (by first | omega | (simp; done) | (simp; omega)) _))⟩
    · have H1 := Lib.hid h1; clear h1
      go_wp2_with fail
      refine (i_isRentDay _ _).mono ?_
      rintro e w' ⟨rfl, rfl⟩
      rcases h2 : inB x.fDay 0 100000 with _ | _
      · have E : Hid (okRental x = false) := Lib.hid (by unfold okRental okRental5; rw [H0.out, H1.out, h2]; rfl)
        clear h2
        go_wp2
        go_ret
        exact ⟨ret_bool E.out.symm, by (repeat (first | exact Below.refl _ _ | assumption | refine Below.drew ?_ | refine Below.alloc ?_ (by first | omega | (simp; done) | (simp; omega) | exact Below.size (by assumption)) _ | refine Below.setCell ?_ (by first | omega | (simp; done) | (simp; omega)) _))⟩
      · have H2 := Lib.hid h2; clear h2
        go_wp2_with fail
        refine (i_isMonths _ _).mono ?_
        rintro e w' ⟨rfl, rfl⟩
        rcases h3 : inB x.fMonths 1 120 with _ | _
        · have E : Hid (okRental x = false) := Lib.hid (by unfold okRental okRental5; rw [H0.out, H1.out, H2.out, h3]; rfl)
          clear h3
          go_wp2
          go_ret
          exact ⟨ret_bool E.out.symm, by (repeat (first | exact Below.refl _ _ | assumption | refine Below.drew ?_ | refine Below.alloc ?_ (by first | omega | (simp; done) | (simp; omega) | exact Below.size (by assumption)) _ | refine Below.setCell ?_ (by first | omega | (simp; done) | (simp; omega)) _))⟩
        · have H3 := Lib.hid h3; clear h3
          go_wp2_with fail
          refine (i_isMoney _ _).mono ?_
          rintro e w' ⟨rfl, rfl⟩
          go_wp2
          go_ret
          exact ⟨ret_bool (by unfold okRental okRental5; rw [H0.out, H1.out, H2.out, H3.out]; rfl), by (repeat (first | exact Below.refl _ _ | assumption | refine Below.drew ?_ | refine Below.alloc ?_ (by first | omega | (simp; done) | (simp; omega) | exact Below.size (by assumption)) _ | refine Below.setCell ?_ (by first | omega | (simp; done) | (simp; omega)) _))⟩

set_option maxRecDepth 100000 in
set_option maxHeartbeats 2000000 in
theorem i_RentalText (x : DRental) (w : World) (hg : x.fId.size ≤ 1048576) (hg2 : x.fItem.size ≤ 1048576) (hL : LibW w) :
    Calls Tryd.prog 18 #[.agg #[.string x.fId, .string x.fItem, .int .i64 x.fDay, .int .i64 x.fMonths, .int .i64 x.fFee]] w fun e w' => e = .returned (.string (rentalText x)) ∧ Below w.heap.size w w' := by
  have hR := range_new w #[.string x.fId, .string x.fItem, .int .i64 x.fDay, .int .i64 x.fMonths, .int .i64 x.fFee] 38
  have hb0 : Below w.heap.size w (w.alloc (.cells #[.string x.fId, .string x.fItem, .int .i64 x.fDay, .int .i64 x.fMonths, .int .i64 x.fFee] 38)) := (Below.refl _ _).alloc (Nat.le_refl _) _
  obtain ⟨W0, hW0⟩ : ∃ W0, w.alloc (.cells #[.string x.fId, .string x.fItem, .int .i64 x.fDay, .int .i64 x.fMonths, .int .i64 x.fFee] 38) = W0 := ⟨_, rfl⟩
  have hsz : W0.heap.size = w.heap.size + 1 := by rw [← hW0]; simp
  rw [hW0] at hR hb0
  have hc0 := hR 0 _ rfl
  have hc1 := hR 1 _ rfl
  have hc2 := hR 2 _ rfl
  have hc3 := hR 3 _ rfl
  have hc4 := hR 4 _ rfl
  simp only [Nat.zero_add] at hc0 hc1 hc2 hc3 hc4
  clear hR
  go_enter Tryd.func18, Tryd.ntmps18
  go_wp2_with fail
  try rw [hW0]
  clear hW0
  refine (i_validRental x _ (by unfold maxLen; omega) (by unfold maxLen; omega)).mono ?_
  rintro e w1 ⟨rfl, hb⟩
  replace hc0 := cell_later hb hc0
  replace hc1 := cell_later hb hc1
  replace hc2 := cell_later hb hc2
  replace hc3 := cell_later hb hc3
  replace hc4 := cell_later hb hc4
  have hbF := hb0.trans (hb.mono hb0.size)
  have hz1 := hb.size
  rw [hsz] at hz1
  rcases hk : okRental x with _ | _
  · have E : Hid (rentalText x = ⟨#[]⟩) := Lib.hid (by unfold rentalText text3; rw [if_neg (by unfold okRental at hk; rw [hk]; simp)])
    clear hk
    go_wp2
    go_ret
    exact ⟨by rw [E.out]; rfl, hbF⟩
  · have E : Hid (rentalText x = x.fId ++ ⟨#[32]⟩ ++ (x.fItem ++ ⟨#[32]⟩ ++ ofL (textL [x.fDay, x.fMonths, x.fFee]))) := Lib.hid (by unfold rentalText text3; exact if_pos hk)
    have hn := okRental_names _ _ _ _ _ hk
    have hr := okRental_range _ _ _ _ _ hk
    have s1 := rental_name_size hn.1
    have s2 := rental_name_size hn.2
    have hz : (x.fItem ++ ⟨#[32]⟩ ++ ofL (textL [x.fDay, x.fMonths, x.fFee])).size ≤ 2000 := by
      rw [ba_app_size, ba_app_size, ofL_size]
      have := textL_len hr (by simp)
      show _ + 1 + _ ≤ _
      omega
    obtain ⟨U, hU⟩ : ∃ U, x.fItem ++ ⟨#[32]⟩ ++ ofL (textL [x.fDay, x.fMonths, x.fFee]) = U := ⟨_, rfl⟩
    have hcall : ∀ W A c, Rd intE W A 3 [x.fDay, x.fMonths, x.fFee] → LibW W → Calls Tryd.prog 26 #[.string x.fItem, .slice A 3 c] W fun e w' => e = .returned (.string U) ∧ Below W.heap.size W w' := fun W A c h1 h2 => by
      rw [← hU]
      exact i_named x.fItem A 3 c _ W (by omega) h1 (by omega) hr h2
    rw [hU] at hz E
    have HC := Lib.hid hcall
    have q1 := fun W => run_string_add_sum (P := Tryd.prog) W x.fId ⟨#[32]⟩ (by show _ + 1 ≤ _; omega)
    have q2 := fun W => run_string_add_sum (P := Tryd.prog) W (x.fId ++ ⟨#[32]⟩) U (by rw [ba_app_size]; show _ + 1 + _ ≤ _; omega)
    have hlt : w.heap.size < w1.heap.size := by omega
    have hk0 : ∀ o, (w1.alloc o).drew.cell? ⟨w.heap.size, 0, none⟩ = _ := fun o => (World.cell?_alloc_lt w1 o _ hlt).trans hc0
    have hk1 : ∀ o, (w1.alloc o).drew.cell? ⟨w.heap.size, 1, none⟩ = _ := fun o => (World.cell?_alloc_lt w1 o _ hlt).trans hc1
    have hk2 : ∀ o, (w1.alloc o).drew.cell? ⟨w.heap.size, 2, none⟩ = _ := fun o => (World.cell?_alloc_lt w1 o _ hlt).trans hc2
    have hk3 : ∀ o, (w1.alloc o).drew.cell? ⟨w.heap.size, 3, none⟩ = _ := fun o => (World.cell?_alloc_lt w1 o _ hlt).trans hc3
    have hk4 : ∀ o, (w1.alloc o).drew.cell? ⟨w.heap.size, 4, none⟩ = _ := fun o => (World.cell?_alloc_lt w1 o _ hlt).trans hc4
    clear hk hn hr hU hcall hb hb0 hsz
    go_wp2_with fail
    go_region_held3 (fun w' => w'.cell? ⟨w.heap.size, 0, none⟩ = some (.string x.fId) ∧ w'.cell? ⟨w.heap.size, 1, none⟩ = some (.string x.fItem) ∧ w'.cell? ⟨w.heap.size, 2, none⟩ = some (.int .i64 x.fDay) ∧ w'.cell? ⟨w.heap.size, 3, none⟩ = some (.int .i64 x.fMonths) ∧ w'.cell? ⟨w.heap.size, 4, none⟩ = some (.int .i64 x.fFee) ∧ Below w.heap.size w w')
      (first | exact ⟨hc0, hc1, hc2, hc3, hc4, hbF.drew⟩ | exact ⟨hk0 _, hk1 _, hk2 _, hk3 _, hk4 _, (hbF.alloc hbF.size _).drew⟩ | (go_split_ands; exact ⟨cell_later hb2 (by assumption), cell_later hb2 (by assumption), cell_later hb2 (by assumption), cell_later hb2 (by assumption), cell_later hb2 (by assumption), Below.trans (by assumption) (hb2.mono (Below.size (by assumption)))⟩) | (go_split_ands; exact ⟨by assumption, by assumption, by assumption, by assumption, by assumption, by assumption⟩))
      (first | (go_at_call 26; refine (HC.out _ _ _ (Rd.lit1 intE (l := [x.fDay, x.fMonths, x.fFee]) (w := w1.drew) (cs := #[.int .i64 x.fDay, .int .i64 x.fMonths, .int .i64 x.fFee]) rfl rfl rfl) (hL.below (hbF.alloc hbF.size _).drew)).mono ?_; rintro e w2 ⟨rfl, hb2⟩))
    rename_i hh
    obtain ⟨_, _, _, _, _, hbE⟩ := hh
    clear q1 q2
    go_wp2
    go_ret
    exact ⟨by rw [E.out]; rfl, hbE⟩

end Go.Proofs.YtndbppplkfpgnaaDoor
