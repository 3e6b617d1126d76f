/- Reading: Coat. Printed by a program of mine. -/
import Derived.Test.YtbdjhecbingcjaaGreatDoorRows
import Derived.Test.YtbdjhecbingcjaaGreatDoorWordsNL
import Derived.Test.YtbdjhecbingcjaaGreatDoorCCoat
import Derived.Test.YtbdjhecbingcjaaGreatDoorOrd
import Derived.Test.YtbdjhecbingcjaaGreatDoorBasic
import Derived.Test.YtbdjhecbingcjaaGreatDoorRes
import Derived.Test.YtbdjhecbingcjaaGreatDoorTwo
import Derived.Deep.RegionHeld3
namespace Go.Proofs.YtbdjhecbingcjaaGreatDoor
set_option linter.unusedVariables false
set_option linter.unusedSimpArgs false
set_option linter.unusedSectionVars false
open Go.RowKit

/-- a colour: three numbers within bounds -/
def colourB (ns : List Int) : Bool := ns.all (fun k => inB k 0 255) && decide (ns.length = 3)
theorem colour_range {ns : List Int} (h : colourB ns = true) : (∀ n ∈ ns, 0 ≤ n ∧ n ≤ 255) ∧ ns.length ≤ 12 := by
  unfold colourB at h
  rw [Bool.and_eq_true, decide_eq_true_eq, List.all_eq_true] at h
  refine ⟨fun n hn => ?_, by omega⟩
  have := h.1 n hn
  unfold inB at this
  simpa [Bool.and_eq_true, decide_eq_true_eq] using this
def okCoat4 (p : ByteArray) (n0 n1 : Int) (ns : List Int) : Bool := nameB p && (inB n0 0 365 && (inB n1 0 1000 && colourB ns))
def okCoat (x : DCoat) : Bool := okCoat4 x.fId x.fDays x.fCover x.fColour
theorem okCoat_name (p : ByteArray) (n0 n1 : Int) (ns : List Int) (h : okCoat4 p n0 n1 ns = true) : nameB p = true := by
  unfold okCoat4 at h
  simp only [Bool.and_eq_true] at h
  exact h.1
def coatO (s : ByteArray) : Option DCoat := (oN okCoat4 s).map fun y => ⟨y.1, y.2.1, y.2.2.1, y.2.2.2⟩
def coatV (s : ByteArray) : DCoat := (coatO s).getD ⟨⟨#[]⟩, 0, 0, []⟩
def coatOk (s : ByteArray) : Bool := (coatO s).isSome
def coatText (x : DCoat) : ByteArray := textN okCoat4 x.fId x.fDays x.fCover x.fColour
theorem coatO_of {s : ByteArray} (h : oN okCoat4 s = none) : coatO s = none := by unfold coatO; rw [h]; rfl
theorem coatO_is {s p : ByteArray} {n0 n1 : Int} {ns : List Int} (h : oN okCoat4 s = some (p, n0, n1, ns)) : coatO s = some ⟨p, n0, n1, ns⟩ := by unfold coatO; rw [h]; rfl
theorem coat_none {s : ByteArray} (h : coatO s = none) : coatV s = ⟨⟨#[]⟩, 0, 0, []⟩ ∧ coatOk s = false := by unfold coatV coatOk; rw [h]; exact ⟨rfl, rfl⟩
theorem coat_some {s : ByteArray} {x : DCoat} (h : coatO s = some x) : coatV s = x ∧ coatOk s = true := by unfold coatV coatOk; rw [h]; exact ⟨rfl, rfl⟩
theorem nl_name_size {s : ByteArray} (h : nameB s = true) : s.size ≤ 10 := by
  unfold nameB at h
  rw [Bool.and_eq_true, Bool.and_eq_true] at h
  have := of_decide_eq_true h.2.2
  omega
theorem nl_word_size {s p : ByteArray} {k : Nat} (h : (wordsB s)[k]? = some p) : p.size ≤ s.size := by
  have h1 := List.mem_of_getElem? h
  unfold wordsB at h1
  obtain ⟨j, hj⟩ := List.mem_iff_getElem?.1 (List.mem_filter.1 h1).1
  exact piece_size hj
theorem oN_ok {ok : ByteArray → Int → Int → List Int → Bool} {s p : ByteArray} {n0 n1 : Int} {ns : List Int} (h : oN ok s = some (p, n0, n1, ns)) : ok p n0 n1 ns = true := by
  obtain ⟨a, t, u, m0, m1, ms, _, _, _, h4, h5⟩ := oN_some h
  cases h5
  exact h4
theorem okCoat_len {x : DCoat} (h : okCoat x = true) : x.fColour.length ≤ 12 := by
  unfold okCoat okCoat4 at h
  simp only [Bool.and_eq_true] at h
  exact (colour_range h.2.2.2).2


/-- how far the colours have been seen -/
def CN (ns : List Int) (k : Nat) : Prop := ∀ (j : Nat) (y : Int), j < k → ns[j]? = some y → inB y 0 255 = true
theorem cn_three (n : Nat) : ((n : Int) == 3) = decide (n = 3) := by
  by_cases h : n = 3
  · subst h; rfl
  · rw [decide_eq_false h, beq_eq_false_iff_ne]; omega
theorem cn_zero (ns : List Int) : CN ns 0 := fun j y h => by omega
theorem cn_bad {ns : List Int} {k : Nat} {x : Int} (hx : ns[k]? = some x) (hb : inB x 0 255 = false) : colourB ns = false := by
  unfold colourB
  rw [Bool.and_eq_false_iff]
  refine .inl ?_
  rw [List.all_eq_false]
  exact ⟨x, List.mem_of_getElem? hx, by rw [hb]; simp⟩
theorem cn_next {ns : List Int} {k : Nat} {x : Int} (h : CN ns k) (hx : ns[k]? = some x) (hb : inB x 0 255 = true) : CN ns (k + 1) := fun j y hj hy => by
  rcases Nat.lt_or_ge j k with h' | h'
  · exact h j y h' hy
  · obtain rfl : j = k := by omega
    rw [hx] at hy
    cases hy
    exact hb
theorem cn_end {ns : List Int} {n : Nat} (h : CN ns n) (hl : ns.length = n) : colourB ns = decide (n = 3) := by
  unfold colourB
  rw [hl, show ns.all (fun k => inB k 0 255) = true from List.all_eq_true.2 fun x hx => by
    obtain ⟨j, hj⟩ := List.mem_iff_getElem?.1 hx
    exact h j x (by have := (List.getElem?_eq_some_iff.1 hj).1; omega) hj, Bool.true_and]

set_option maxRecDepth 100000 in
set_option maxHeartbeats 2000000 in
theorem s_l13Colour (A : Option Addr) (n c : Nat) (ns : List Int) (w : World) (hr : Rd intE w A n ns) (hn : n ≤ maxLen) :
    Calls Tryz.prog 37 #[.slice A n c] w (RetB (colourB ns) w) := by
  unfold maxLen at hn
  have Hl := Lib.hid hr.1
  go_enter Tryz.func37, Tryz.ntmps37
  go_wp2_with fail
  go_loopw [3] (fun i wr => ∃ k : Nat, k ≤ n ∧ i = .int .i64 k ∧ Below w.heap.size w wr ∧ Hid (CN ns k)) (fun i _ => n - (intOf i).toNat)
  case atStart => exact ⟨0, Nat.zero_le _, rfl, Below.refl _ _, Lib.hid (cn_zero ns)⟩
  case round =>
    obtain ⟨k, hk, rfl, hb, HH⟩ := hrel
    by_cases hlt : k < n
    · obtain ⟨b, off, x, rfl, hx, hc⟩ := hr.get hlt
      have hx0 := range_below (B := 0) hc hb 0 (.int .i64 x) rfl
      simp only [intE, Nat.mul_one, Nat.add_zero] at hx0
      rcases hbx : inB x 0 255 with _ | _
      · have E := Lib.hid (cn_bad hx hbx)
        have HY := Lib.hid hbx
        clear hbx hx hc
        go_wp2_with fail
        refine (s_l00In x 0 255 _).mono ?_
        rintro e w' ⟨rfl, rfl⟩
        rw [HY.out]
        go_wp2
        go_ret
        exact ⟨ret_bool E.out.symm, hb⟩
      · have HY := Lib.hid hbx
        have HC := Lib.hid (cn_next HH.out hx hbx)
        clear hbx hx hc HH
        go_wp2_with fail
        refine (s_l00In x 0 255 _).mono ?_
        rintro e w' ⟨rfl, rfl⟩
        rw [HY.out]
        go_wp2
        first | (refine ⟨⟨k + 1, by omega, by go_num, hb, HC⟩, ?_⟩; (simp [intOf]; omega)) | (go_roundw; (case rel => first | exact ⟨k + 1, by omega, by go_num, hb, HC⟩ | ((try refine ⟨trivial, ?_⟩); (repeat apply Exists.intro); exact ⟨⟨k + 1, by omega, by go_num, hb, HC⟩, rfl⟩)); (case measure => (simp [intOf]; omega)))
    · have HN : Hid (CN ns n) := Lib.hid ((show k = n from by omega) ▸ HH.out)
      have E := Lib.hid (cn_end HN.out Hl.out)
      go_wp2
      go_ret
      exact ⟨ret_bool (by rw [E.out]; exact cn_three n), hb⟩

set_option maxRecDepth 100000 in
set_option maxHeartbeats 2000000 in
theorem i_isColour (A : Option Addr) (n c : Nat) (ns : List Int) (w : World) (hr : Rd intE w A n ns) (hn : n ≤ maxLen) :
    Calls Tryz.prog 24 #[.slice A n c] w (RetB (colourB ns) w) := by
  unfold maxLen at hn
  have Hl := Lib.hid hr.1
  go_enter Tryz.func24, Tryz.ntmps24
  go_wp2_with fail
  go_loopw [7] (fun i wr => ∃ k : Nat, k ≤ n ∧ i = .int .i64 k ∧ Below w.heap.size w wr ∧ Hid (CN ns k)) (fun i _ => n - (intOf i).toNat)
  case atStart => exact ⟨0, Nat.zero_le _, rfl, Below.refl _ _, Lib.hid (cn_zero ns)⟩
  case round =>
    obtain ⟨k, hk, rfl, hb, HH⟩ := hrel
    by_cases hlt : k < n
    · obtain ⟨b, off, x, rfl, hx, hc⟩ := hr.get hlt
      have hx0 := range_below (B := 0) hc hb 0 (.int .i64 x) rfl
      simp only [intE, Nat.mul_one, Nat.add_zero] at hx0
      rcases hbx : inB x 0 255 with _ | _
      · have E := Lib.hid (cn_bad hx hbx)
        have HY := Lib.hid hbx
        clear hbx hx hc
        go_wp2_with fail
        refine (i_within x 0 255 _).mono ?_
        rintro e w' ⟨rfl, rfl⟩
        rw [HY.out]
        go_wp2
        go_ret
        exact ⟨ret_bool E.out.symm, hb⟩
      · have HY := Lib.hid hbx
        have HC := Lib.hid (cn_next HH.out hx hbx)
        clear hbx hx hc HH
        go_wp2_with fail
        refine (i_within x 0 255 _).mono ?_
        rintro e w' ⟨rfl, rfl⟩
        rw [HY.out]
        go_wp2
        first | (refine ⟨⟨k + 1, by omega, by go_num, hb, HC⟩, ?_⟩; (simp [intOf]; omega)) | (go_roundw; (case rel => first | exact ⟨k + 1, by omega, by go_num, hb, HC⟩ | ((try refine ⟨trivial, ?_⟩); (repeat apply Exists.intro); exact ⟨⟨k + 1, by omega, by go_num, hb, HC⟩, rfl⟩)); (case measure => (simp [intOf]; omega)))
    · have HN : Hid (CN ns n) := Lib.hid ((show k = n from by omega) ▸ HH.out)
      have E := Lib.hid (cn_end HN.out Hl.out)
      go_wp2
      go_ret
      exact ⟨ret_bool (by rw [E.out]; exact cn_three n), hb⟩

set_option maxRecDepth 100000 in
set_option maxHeartbeats 2000000 in
theorem s_l13One (b off : Nat) (x : DCoat) (A : Option Addr) (n c : Nat) (w : World) (hg : x.fId.size ≤ maxLen) (hc : w.rangeAt b off [.string x.fId, .int .i64 x.fDays, .int .i64 x.fCover, .slice A n c]) (hr : Rd intE w A n x.fColour) (hn : n ≤ maxLen) :
    Calls Tryz.prog 54 #[.pointer (some ⟨b, off, none⟩)] w (RetB (okCoat x) w) := by
  have hc0 := hc 0 _ rfl
  have hc1 := hc 1 _ rfl
  have hc2 := hc 2 _ rfl
  have hc3 := hc 3 _ rfl
  rw [Nat.add_zero] at hc0
  clear hc
  go_enter Tryz.func54, Tryz.ntmps54
  go_wp2_with fail
  refine (s_l01Name x.fId _ (by assumption)).mono ?_
  rintro e w' ⟨rfl, rfl⟩
  rcases h0 : nameB x.fId with _ | _
  · have E : Hid (okCoat x = false) := Lib.hid (by unfold okCoat okCoat4; rw [h0]; rfl)
    clear h0
    go_wp2
    go_ret
    exact ⟨ret_bool E.out.symm, Below.refl _ _⟩
  · have H0 := Lib.hid h0; clear h0
    go_wp2_with fail
    refine (s_l00In _ _ _ _).mono ?_
    rintro e w' ⟨rfl, rfl⟩
    rcases h1 : inB x.fDays 0 365 with _ | _
    · have E : Hid (okCoat x = false) := Lib.hid (by unfold okCoat okCoat4; rw [H0.out, h1]; rfl)
      clear h1
      go_wp2
      go_ret
      exact ⟨ret_bool E.out.symm, Below.refl _ _⟩
    · have H1 := Lib.hid h1; clear h1
      go_wp2_with fail
      refine (s_l00In _ _ _ _).mono ?_
      rintro e w' ⟨rfl, rfl⟩
      rcases h2 : inB x.fCover 0 1000 with _ | _
      · have E : Hid (okCoat x = false) := Lib.hid (by unfold okCoat okCoat4; rw [H0.out, H1.out, h2]; rfl)
        clear h2
        go_wp2
        go_ret
        exact ⟨ret_bool E.out.symm, Below.refl _ _⟩
      · have H2 := Lib.hid h2; clear h2
        go_wp2_with fail
        refine (s_l13Colour A n c x.fColour _ hr hn).mono ?_
        rintro e w' ⟨rfl, hb⟩
        go_wp2
        go_ret
        exact ⟨ret_bool (by unfold okCoat okCoat4; rw [H0.out, H1.out, H2.out]; rfl), hb⟩

set_option maxRecDepth 100000 in
set_option maxHeartbeats 2000000 in
theorem i_validCoat (x : DCoat) (A : Option Addr) (n c : Nat) (w : World) (hg : x.fId.size ≤ maxLen) (hr : Rd intE w A n x.fColour) (hn : n ≤ maxLen) :
    Calls Tryz.prog 29 #[.agg #[.string x.fId, .int .i64 x.fDays, .int .i64 x.fCover, .slice A n c]] w (RetB (okCoat x) w) := by
  have hR := range_new w #[.string x.fId, .int .i64 x.fDays, .int .i64 x.fCover, .slice A n c] 36
  have hb0 : Below w.heap.size w (w.alloc (.cells #[.string x.fId, .int .i64 x.fDays, .int .i64 x.fCover, .slice A n c] 36)) := (Below.refl _ _).alloc (Nat.le_refl _) _
  obtain ⟨W0, hW0⟩ : ∃ W0, w.alloc (.cells #[.string x.fId, .int .i64 x.fDays, .int .i64 x.fCover, .slice A n c] 36) = W0 := ⟨_, rfl⟩
  rw [hW0] at hR hb0
  have hc0 := hR 0 _ rfl
  have hc1 := hR 1 _ rfl
  have hc2 := hR 2 _ rfl
  have hc3 := hR 3 _ rfl
  simp only [Nat.zero_add] at hc0 hc1 hc2 hc3
  obtain ⟨bx, hbx⟩ : ∃ q, w.heap.size = q := ⟨_, rfl⟩
  rw [hbx] at hc0 hc1 hc2 hc3
  have hr0 := hr.below hb0
  have HB := Lib.hid hb0
  clear hR hb0
  go_enter Tryz.func29, Tryz.ntmps29
  go_wp2_with fail
  try rw [hW0]
  try rw [hbx]
  clear hW0
  go_wp2_with fail
  refine (i_IsName x.fId _ (by assumption)).mono ?_
  rintro e w' ⟨rfl, rfl⟩
  rcases h0 : nameB x.fId with _ | _
  · have E : Hid (okCoat x = false) := Lib.hid (by unfold okCoat okCoat4; rw [h0]; rfl)
    clear h0
    go_wp2
    go_ret
    exact ⟨ret_bool E.out.symm, HB.out⟩
  · have H0 := Lib.hid h0; clear h0
    go_wp2_with fail
    refine (i_within _ _ _ _).mono ?_
    rintro e w' ⟨rfl, rfl⟩
    rcases h1 : inB x.fDays 0 365 with _ | _
    · have E : Hid (okCoat x = false) := Lib.hid (by unfold okCoat okCoat4; rw [H0.out, h1]; rfl)
      clear h1
      go_wp2
      go_ret
      exact ⟨ret_bool E.out.symm, HB.out⟩
    · have H1 := Lib.hid h1; clear h1
      go_wp2_with fail
      refine (i_within _ _ _ _).mono ?_
      rintro e w' ⟨rfl, rfl⟩
      rcases h2 : inB x.fCover 0 1000 with _ | _
      · have E : Hid (okCoat x = false) := Lib.hid (by unfold okCoat okCoat4; rw [H0.out, H1.out, h2]; rfl)
        clear h2
        go_wp2
        go_ret
        exact ⟨ret_bool E.out.symm, HB.out⟩
      · have H2 := Lib.hid h2; clear h2
        go_wp2_with fail
        refine (i_isColour A n c x.fColour _ hr0 hn).mono ?_
        rintro e w' ⟨rfl, hb⟩
        have hbZ := HB.out.trans (hb.mono HB.out.size)
        go_wp2
        go_ret
        exact ⟨ret_bool (by unfold okCoat okCoat4; rw [H0.out, H1.out, H2.out]; rfl), hbZ⟩

set_option maxRecDepth 100000 in
set_option maxHeartbeats 4000000 in
theorem i_CoatText (x : DCoat) (A : Option Addr) (n c : Nat) (w : World) (hg : x.fId.size ≤ 1048576) (hr : Rd intE w A n x.fColour) (hn : n ≤ maxLen) (hL : LibW w) :
    Calls Tryz.prog 17 #[.agg #[.string x.fId, .int .i64 x.fDays, .int .i64 x.fCover, .slice A n c]] w fun e w' => e = .returned (.string (coatText x)) ∧ Below w.heap.size w w' := by
  have hR := range_new w #[.string x.fId, .int .i64 x.fDays, .int .i64 x.fCover, .slice A n c] 36
  have hb0 : Below w.heap.size w (w.alloc (.cells #[.string x.fId, .int .i64 x.fDays, .int .i64 x.fCover, .slice A n c] 36)) := (Below.refl _ _).alloc (Nat.le_refl _) _
  obtain ⟨W0, hW0⟩ : ∃ W0, w.alloc (.cells #[.string x.fId, .int .i64 x.fDays, .int .i64 x.fCover, .slice A n c] 36) = W0 := ⟨_, rfl⟩
  have hsz : W0.heap.size = w.heap.size + 1 := by rw [← hW0]; simp
  rw [hW0] at hR hb0
  have hc0 := hR 0 _ rfl
  have hc1 := hR 1 _ rfl
  have hc2 := hR 2 _ rfl
  have hc3 := hR 3 _ rfl
  simp only [Nat.zero_add] at hc0 hc1 hc2 hc3
  clear hR
  go_enter Tryz.func17, Tryz.ntmps17
  go_wp2_with fail
  try rw [hW0]
  clear hW0
  refine (i_validCoat x A n c _ (by unfold maxLen; omega) (hr.below hb0) hn).mono ?_
  rintro e w1 ⟨rfl, hb⟩
  replace hc0 := cell_later hb hc0
  replace hc1 := cell_later hb hc1
  replace hc2 := cell_later hb hc2
  replace hc3 := cell_later hb hc3
  have hbF := hb0.trans (hb.mono hb0.size)
  have hz1 := hb.size
  rw [hsz] at hz1
  rcases hk : okCoat x with _ | _
  · have E : Hid (coatText x = ⟨#[]⟩) := Lib.hid (by unfold coatText textN; rw [if_neg (by unfold okCoat at hk; rw [hk]; simp)])
    clear hk
    go_wp2
    go_ret
    exact ⟨by rw [E.out]; rfl, hbF⟩
  · have E : Hid (coatText x = x.fId ++ ⟨#[32]⟩ ++ ofL (textL [x.fDays, x.fCover]) ++ ⟨#[32]⟩ ++ ofL (textL x.fColour)) := Lib.hid (by unfold coatText textN; exact if_pos hk)
    have hk' := hk
    unfold okCoat okCoat4 at hk'
    simp only [Bool.and_eq_true] at hk'
    have hq := colour_range hk'.2.2.2
    have hnm := nl_name_size hk'.1
    have hn1 : -1000000000000 ≤ x.fDays ∧ x.fDays ≤ 1000000000000 := by have := hk'.2.1; unfold inB at this; simp only [Bool.and_eq_true, decide_eq_true_eq] at this; omega
    have hn2 : -1000000000000 ≤ x.fCover ∧ x.fCover ≤ 1000000000000 := by have := hk'.2.2.1; unfold inB at this; simp only [Bool.and_eq_true, decide_eq_true_eq] at this; omega
    have hr1 : ∀ m ∈ [x.fDays, x.fCover], -1000000000000 ≤ m ∧ m ≤ 1000000000000 := fun m hm => by
      simp only [List.mem_cons, List.mem_nil_iff, or_false] at hm
      rcases hm with rfl | rfl
      · exact hn1
      · exact hn2
    have hr2 : ∀ m ∈ x.fColour, -1000000000000 ≤ m ∧ m ≤ 1000000000000 := fun m hm => by have := hq.1 m hm; omega
    have hl := hr.1
    have hzT : (ofL (textL [x.fDays, x.fCover])).size ≤ 1280 := by rw [ofL_size]; exact textL_len hr1 (by simp)
    have hzU : (ofL (textL x.fColour)).size ≤ 1280 := by rw [ofL_size]; exact textL_len hr2 (by omega)
    have HC : Hid (∀ W A c, Rd intE W A 2 [x.fDays, x.fCover] → LibW W → Calls Tryz.prog 35 #[.string x.fId, .slice A 2 c] W fun e w' => e = .returned (.string (x.fId ++ ⟨#[32]⟩ ++ ofL (textL [x.fDays, x.fCover]))) ∧ Below W.heap.size W w') := Lib.hid (fun W A c h1 h2 => i_named x.fId A 2 c _ W (by omega) h1 (by omega) hr1 h2)
    have HD : Hid (∀ W, Below w.heap.size w W → Calls Tryz.prog 36 #[.slice A n c] W fun e w' => e = .returned (.string (ofL (textL x.fColour))) ∧ Below W.heap.size W w') := Lib.hid (fun W h1 => i_ListText A n c _ W (hr.below h1) (by omega) hr2 (hL.below h1))
    obtain ⟨T, hT⟩ : ∃ T, ofL (textL [x.fDays, x.fCover]) = T := ⟨_, rfl⟩
    obtain ⟨U, hU⟩ : ∃ U, ofL (textL x.fColour) = U := ⟨_, rfl⟩
    rw [hT] at hzT E HC
    rw [hU] at hzU E HD
    have hlit : ∀ (W : World) (t : TypeId), Rd intE (W.alloc (.cells #[.int .i64 x.fDays, .int .i64 x.fCover] t)) (some ⟨W.heap.size, 0, none⟩) 2 [x.fDays, x.fCover] := fun W t => Rd.lit1 intE rfl rfl rfl
    have HC1 : Hid (∀ (W : World) (t : TypeId) (c : Nat), LibW (W.alloc (.cells #[.int .i64 x.fDays, .int .i64 x.fCover] t)) → Calls Tryz.prog 35 #[.string x.fId, .slice (some ⟨W.heap.size, 0, none⟩) 2 c] (W.alloc (.cells #[.int .i64 x.fDays, .int .i64 x.fCover] t)) fun e w' => e = .returned (.string (x.fId ++ ⟨#[32]⟩ ++ T)) ∧ Below (W.alloc (.cells #[.int .i64 x.fDays, .int .i64 x.fCover] t)).heap.size (W.alloc (.cells #[.int .i64 x.fDays, .int .i64 x.fCover] t)) w') := Lib.hid (fun W t c h => HC.out _ _ c (hlit W t) h)
    have hlitD : ∀ (W : World) (t : TypeId), Rd intE (W.alloc (.cells #[.int .i64 x.fDays, .int .i64 x.fCover] t)).drew (some ⟨W.heap.size, 0, none⟩) 2 [x.fDays, x.fCover] := fun W t => (hlit W t).below ((Below.refl _ _).drew)
    have HC2 : Hid (∀ (W : World) (t : TypeId) (c : Nat), LibW (W.alloc (.cells #[.int .i64 x.fDays, .int .i64 x.fCover] t)).drew → Calls Tryz.prog 35 #[.string x.fId, .slice (some ⟨W.heap.size, 0, none⟩) 2 c] (W.alloc (.cells #[.int .i64 x.fDays, .int .i64 x.fCover] t)).drew fun e w' => e = .returned (.string (x.fId ++ ⟨#[32]⟩ ++ T)) ∧ Below (W.alloc (.cells #[.int .i64 x.fDays, .int .i64 x.fCover] t)).drew.heap.size (W.alloc (.cells #[.int .i64 x.fDays, .int .i64 x.fCover] t)).drew w') := Lib.hid (fun W t c h => HC.out _ _ c (hlitD W t) h)
    have q1 := fun W => run_string_add_sum (P := Tryz.prog) W (x.fId ++ ⟨#[32]⟩ ++ T) ⟨#[32]⟩ (by rw [ba_app_size, ba_app_size]; show _ + 1 + _ + 1 ≤ _; omega)
    have q2 := fun W => run_string_add_sum (P := Tryz.prog) W (x.fId ++ ⟨#[32]⟩ ++ T ++ ⟨#[32]⟩) U (by rw [ba_app_size, ba_app_size, ba_app_size]; show _ + 1 + _ + 1 + _ ≤ _; omega)
    have hlt : w.heap.size < w1.heap.size := by omega
    clear hk hk' hq hr1 hr2 hT hU hb hb0 hsz hl hn1 hn2 hnm
    go_wp2_with fail
    go_region_held3 (fun w' => (w'.cell? ⟨w.heap.size, 0, none⟩ = some (.string x.fId) ∧ w'.cell? ⟨w.heap.size, 1, none⟩ = some (.int .i64 x.fDays) ∧ w'.cell? ⟨w.heap.size, 2, none⟩ = some (.int .i64 x.fCover) ∧ w'.cell? ⟨w.heap.size, 3, none⟩ = some (.slice A n c)) ∧ Below w.heap.size w w')
      (first | exact ⟨⟨hc0, hc1, hc2, hc3⟩, hbF.drew⟩
             | (go_split_ands; exact ⟨⟨cell_later hb2 (by assumption), cell_later hb2 (by assumption), cell_later hb2 (by assumption), cell_later hb2 (by assumption)⟩, Below.trans (by assumption) (hb2.mono (Below.size (by assumption)))⟩)
             | (go_split_ands; exact ⟨⟨cell_later hb5 (by assumption), cell_later hb5 (by assumption), cell_later hb5 (by assumption), cell_later hb5 (by assumption)⟩, Below.trans (by assumption) (hb5.mono (Below.size (by assumption)))⟩)
             | (go_split_ands; exact ⟨⟨cell_later ((Below.refl _ _).alloc (Nat.le_refl _) _) (by assumption), cell_later ((Below.refl _ _).alloc (Nat.le_refl _) _) (by assumption), cell_later ((Below.refl _ _).alloc (Nat.le_refl _) _) (by assumption), cell_later ((Below.refl _ _).alloc (Nat.le_refl _) _) (by assumption)⟩, Below.alloc (by assumption) (Below.size (by assumption)) _⟩))
      (first | (go_at_call 36; go_split_ands; refine (HD.out _ (by assumption)).mono ?_; rintro e w5 ⟨rfl, hb5⟩)
             | (go_at_call 35; go_split_ands; first | (with_reducible refine (HC2.out _ _ _ (hL.below (by assumption))).mono ?_; rintro e w2 ⟨rfl, hb2⟩) | (with_reducible refine (HC1.out _ _ _ (hL.below (by assumption))).mono ?_; rintro e w2 ⟨rfl, hb2⟩) | (with_reducible refine (HC.out _ _ _ ((hlitD _ _).below hb5) (hL.below (by assumption))).mono ?_; rintro e w2 ⟨rfl, hb2⟩) | (with_reducible refine (HC.out _ _ _ ((hlit _ _).below hb5) (hL.below (by assumption))).mono ?_; rintro e w2 ⟨rfl, hb2⟩)))
    rename_i hh
    obtain ⟨_, hbE⟩ := hh
    clear q1 q2
    go_wp2
    go_ret
    exact ⟨by rw [E.out]; rfl, hbE⟩
set_option maxRecDepth 100000 in
set_option maxHeartbeats 4000000 in
theorem I_ReadCoat (s : ByteArray) (w : World) (hs : s.size ≤ 1048576) (hL : LibW w) :
    Calls Tryz.prog 16 #[.string s] w (RetCoat (coatV s) (coatOk s) w) := by
  have hR := range_new w #[.string ⟨#[]⟩, .int .i64 0, .int .i64 0, .slice none 0 0] 36
  have hfr := fun j => new_free w #[.string ⟨#[]⟩, .int .i64 0, .int .i64 0, .slice none 0 0] 36 j
  have hb0 : Below w.heap.size w (w.alloc (.cells #[.string ⟨#[]⟩, .int .i64 0, .int .i64 0, .slice none 0 0] 36)) := (Below.refl _ _).alloc (Nat.le_refl _) _
  obtain ⟨W0, hW0⟩ : ∃ W0, w.alloc (.cells #[.string ⟨#[]⟩, .int .i64 0, .int .i64 0, .slice none 0 0] 36) = W0 := ⟨_, rfl⟩
  have hsz : W0.heap.size = w.heap.size + 1 := by rw [← hW0]; simp
  rw [hW0] at hR hfr hb0
  go_enter Tryz.func16, Tryz.ntmps16
  go_wp2_with fail
  try rw [hW0]
  clear hW0
  refine (i_SplitWords s _ hs (hL.below hb0)).mono ?_
  rintro e w1 ⟨A, n, c, hl, hn, ho, rfl, hb⟩
  have hgl : GL strE 9 W0.heap.size w1 (.slice A n c) (wordsB s) := by unfold GL; rw [hl]; exact ho
  have hbF := hb0.trans (hb.mono hb0.size)
  have hsz1 := hb.size
  rw [hsz] at hsz1
  have hR1 := range_below (B := 0) hR hb
  have hr0 := hR1 0 _ rfl
  have hf0 := free_later (hfr 0) (by simp; omega) hb
  have hr1 := hR1 1 _ rfl
  have hf1 := free_later (hfr 1) (by simp; omega) hb
  have hr2 := hR1 2 _ rfl
  have hf2 := free_later (hfr 2) (by simp; omega) hb
  have hr3 := hR1 3 _ rfl
  have hf3 := free_later (hfr 3) (by simp; omega) hb
  simp only [Nat.zero_add] at hr0 hr1 hr2 hr3
  clear ho hR hfr hR1
  by_cases h3 : n = 3
  · subst h3
    have hrd := hgl.rd
    obtain ⟨b, off, p0, hAe, hp0, hcs0⟩ := hrd.get (k := 0) (by omega)
    subst hAe
    obtain ⟨b1, off1, p1, hAe1, hp1, hcs1⟩ := hrd.get (k := 1) (by omega)
    cases hAe1
    obtain ⟨b2, off2, p2, hAe2, hp2, hcs2⟩ := hrd.get (k := 2) (by omega)
    cases hAe2
    have hc0 := hcs0 0 (.string p0) rfl
    have hc1 := hcs1 0 (.string p1) rfl
    have hc2 := hcs2 0 (.string p2) rfl
    simp only [strE, Nat.mul_one, Nat.zero_mul, Nat.add_zero] at hc0 hc1 hc2
    have hbb : b < w1.heap.size := (hgl.own.2.lt b rfl).2
    have hlst : wordsB s = [p0, p1, p2] := by
      match hh : wordsB s, hl with
      | [x, y, z], _ =>
        rw [hh] at hp0 hp1 hp2
        simp at hp0 hp1 hp2
        rw [hp0, hp1, hp2]
    have HC := Lib.hid hlst
    have hz0 := nl_word_size hp0
    have hz1 := nl_word_size hp1
    have hz2 := nl_word_size hp2
    clear hcs0 hcs1 hcs2 hp0 hp1 hp2 hlst hl hrd hgl
    go_wp2_with fail
    refine (i_ReadList p1 _ (by omega) (hL.below hbF)).mono ?_
    rintro e w2 (⟨hno, A2, n2, c2, rfl, hb2⟩ | ⟨ms, A2, c2, hsome, rfl, hg2, hb2⟩)
    · have E := Lib.hid (coat_none (coatO_of (oN_wbad1 okCoat_name HC.out fun ns h => by rw [hno] at h; cases h)))
      clear hno
      replace hr0 := cell_later hb2 hr0
      replace hf0 := free_later hf0 (by simp; omega) hb2
      replace hr1 := cell_later hb2 hr1
      replace hf1 := free_later hf1 (by simp; omega) hb2
      replace hr2 := cell_later hb2 hr2
      replace hf2 := free_later hf2 (by simp; omega) hb2
      replace hr3 := cell_later hb2 hr3
      replace hf3 := free_later hf3 (by simp; omega) hb2
      replace hc0 := cell_later hb2 hc0
      replace hc1 := cell_later hb2 hc1
      replace hc2 := cell_later hb2 hc2
      replace hbF := hbF.trans (hb2.mono hbF.size)
      have hy2 := hb2.size
      go_wp2_with fail
      refine (i_ReadList p2 _ (by omega) (hL.below hbF)).mono ?_
      rintro e w3 (⟨hno3, A3, n3, c3, rfl, hb3⟩ | ⟨ns, A3, c3, hsome3, rfl, hg3, hb3⟩)
      · clear hno3
        replace hr0 := cell_later hb3 hr0
        replace hf0 := free_later hf0 (by simp; omega) hb3
        replace hr1 := cell_later hb3 hr1
        replace hf1 := free_later hf1 (by simp; omega) hb3
        replace hr2 := cell_later hb3 hr2
        replace hf2 := free_later hf2 (by simp; omega) hb3
        replace hr3 := cell_later hb3 hr3
        replace hf3 := free_later hf3 (by simp; omega) hb3
        replace hbF := hbF.trans (hb3.mono hbF.size)
        have HF := set_cells (w := w3) (g := w.heap.size) [.string ⟨#[]⟩, .int .i64 0, .int .i64 0, .slice none 0 0] 0 (fun j hj => by
          match j, hj with
          | 0, _ => exact ⟨_, hr0⟩
          | 1, _ => exact ⟨_, hr1⟩
          | 2, _ => exact ⟨_, hr2⟩
          | 3, _ => exact ⟨_, hr3⟩)
        have hbW := below_setCells (Nat.le_refl w.heap.size) [.string ⟨#[]⟩, .int .i64 0, .int .i64 0, .slice none 0 0] 0 hbF
        go_wp2
        change bodyPost _ _ _ _ _ (w3.setCells w.heap.size 0 [.string ⟨#[]⟩, .int .i64 0, .int .i64 0, .slice none 0 0])
        generalize w3.setCells w.heap.size 0 [.string ⟨#[]⟩, .int .i64 0, .int .i64 0, .slice none 0 0] = Wf at *
        have qf0 := HF 0 _ rfl
        have qf1 := HF 1 _ rfl
        have qf2 := HF 2 _ rfl
        have qf3 := HF 3 _ rfl
        simp only [Nat.zero_add] at qf0 qf1 qf2 qf3
        exact bodyPost_ret (v := .tuple #[.agg #[.string ⟨#[]⟩, .int .i64 0, .int .i64 0, .slice none 0 0], .bool false]) (by simp [results, Tryz.results16, go_sem, qf0, qf1, qf2, qf3]) rfl ⟨⟨⟨#[]⟩, 0, 0, []⟩, Lib.hid E.out.1.symm, none, 0, 0, rfl, by omega, ⟨by simp, .inl ⟨rfl, rfl⟩⟩, by rw [E.out.2], hbW⟩
      · clear hsome3 hg3
        replace hr0 := cell_later hb3 hr0
        replace hf0 := free_later hf0 (by simp; omega) hb3
        replace hr1 := cell_later hb3 hr1
        replace hf1 := free_later hf1 (by simp; omega) hb3
        replace hr2 := cell_later hb3 hr2
        replace hf2 := free_later hf2 (by simp; omega) hb3
        replace hr3 := cell_later hb3 hr3
        replace hf3 := free_later hf3 (by simp; omega) hb3
        replace hbF := hbF.trans (hb3.mono hbF.size)
        have HF := set_cells (w := w3) (g := w.heap.size) [.string ⟨#[]⟩, .int .i64 0, .int .i64 0, .slice none 0 0] 0 (fun j hj => by
          match j, hj with
          | 0, _ => exact ⟨_, hr0⟩
          | 1, _ => exact ⟨_, hr1⟩
          | 2, _ => exact ⟨_, hr2⟩
          | 3, _ => exact ⟨_, hr3⟩)
        have hbW := below_setCells (Nat.le_refl w.heap.size) [.string ⟨#[]⟩, .int .i64 0, .int .i64 0, .slice none 0 0] 0 hbF
        go_wp2
        change bodyPost _ _ _ _ _ (w3.setCells w.heap.size 0 [.string ⟨#[]⟩, .int .i64 0, .int .i64 0, .slice none 0 0])
        generalize w3.setCells w.heap.size 0 [.string ⟨#[]⟩, .int .i64 0, .int .i64 0, .slice none 0 0] = Wf at *
        have qf0 := HF 0 _ rfl
        have qf1 := HF 1 _ rfl
        have qf2 := HF 2 _ rfl
        have qf3 := HF 3 _ rfl
        simp only [Nat.zero_add] at qf0 qf1 qf2 qf3
        exact bodyPost_ret (v := .tuple #[.agg #[.string ⟨#[]⟩, .int .i64 0, .int .i64 0, .slice none 0 0], .bool false]) (by simp [results, Tryz.results16, go_sem, qf0, qf1, qf2, qf3]) rfl ⟨⟨⟨#[]⟩, 0, 0, []⟩, Lib.hid E.out.1.symm, none, 0, 0, rfl, by omega, ⟨by simp, .inl ⟨rfl, rfl⟩⟩, by rw [E.out.2], hbW⟩
    · have hy2 := hb2.size
      replace hr0 := cell_later hb2 hr0
      replace hf0 := free_later hf0 (by simp; omega) hb2
      replace hr1 := cell_later hb2 hr1
      replace hf1 := free_later hf1 (by simp; omega) hb2
      replace hr2 := cell_later hb2 hr2
      replace hf2 := free_later hf2 (by simp; omega) hb2
      replace hr3 := cell_later hb2 hr3
      replace hf3 := free_later hf3 (by simp; omega) hb2
      replace hc0 := cell_later hb2 hc0
      replace hc1 := cell_later hb2 hc1
      replace hc2 := cell_later hb2 hc2
      replace hbF := hbF.trans (hb2.mono hbF.size)
      go_wp2_with fail
      refine (i_ReadList p2 _ (by omega) (hL.below hbF)).mono ?_
      rintro e w3 (⟨hno3, A3, n3, c3, rfl, hb3⟩ | ⟨ns, A3, c3, hsome3, rfl, hg3, hb3⟩)
      · have E := Lib.hid (coat_none (coatO_of (oN_wbad2 okCoat_name HC.out hno3)))
        clear hno3 hsome hg2
        replace hr0 := cell_later hb3 hr0
        replace hf0 := free_later hf0 (by simp; omega) hb3
        replace hr1 := cell_later hb3 hr1
        replace hf1 := free_later hf1 (by simp; omega) hb3
        replace hr2 := cell_later hb3 hr2
        replace hf2 := free_later hf2 (by simp; omega) hb3
        replace hr3 := cell_later hb3 hr3
        replace hf3 := free_later hf3 (by simp; omega) hb3
        replace hbF := hbF.trans (hb3.mono hbF.size)
        have HF := set_cells (w := w3) (g := w.heap.size) [.string ⟨#[]⟩, .int .i64 0, .int .i64 0, .slice none 0 0] 0 (fun j hj => by
          match j, hj with
          | 0, _ => exact ⟨_, hr0⟩
          | 1, _ => exact ⟨_, hr1⟩
          | 2, _ => exact ⟨_, hr2⟩
          | 3, _ => exact ⟨_, hr3⟩)
        have hbW := below_setCells (Nat.le_refl w.heap.size) [.string ⟨#[]⟩, .int .i64 0, .int .i64 0, .slice none 0 0] 0 hbF
        go_wp2
        change bodyPost _ _ _ _ _ (w3.setCells w.heap.size 0 [.string ⟨#[]⟩, .int .i64 0, .int .i64 0, .slice none 0 0])
        generalize w3.setCells w.heap.size 0 [.string ⟨#[]⟩, .int .i64 0, .int .i64 0, .slice none 0 0] = Wf at *
        have qf0 := HF 0 _ rfl
        have qf1 := HF 1 _ rfl
        have qf2 := HF 2 _ rfl
        have qf3 := HF 3 _ rfl
        simp only [Nat.zero_add] at qf0 qf1 qf2 qf3
        exact bodyPost_ret (v := .tuple #[.agg #[.string ⟨#[]⟩, .int .i64 0, .int .i64 0, .slice none 0 0], .bool false]) (by simp [results, Tryz.results16, go_sem, qf0, qf1, qf2, qf3]) rfl ⟨⟨⟨#[]⟩, 0, 0, []⟩, Lib.hid E.out.1.symm, none, 0, 0, rfl, by omega, ⟨by simp, .inl ⟨rfl, rfl⟩⟩, by rw [E.out.2], hbW⟩
      · have hy3 := hb3.size
        replace hr0 := cell_later hb3 hr0
        replace hf0 := free_later hf0 (by simp; omega) hb3
        replace hr1 := cell_later hb3 hr1
        replace hf1 := free_later hf1 (by simp; omega) hb3
        replace hr2 := cell_later hb3 hr2
        replace hf2 := free_later hf2 (by simp; omega) hb3
        replace hr3 := cell_later hb3 hr3
        replace hf3 := free_later hf3 (by simp; omega) hb3
        replace hc0 := cell_later hb3 hc0
        replace hc1 := cell_later hb3 hc1
        replace hc2 := cell_later hb3 hc2
        replace hbF := hbF.trans (hb3.mono hbF.size)
        by_cases hkn : ms.length = 2
        rotate_left
        · have E := Lib.hid (coat_none (coatO_of (oN_wbad1 okCoat_name HC.out fun ns' h => by rw [hsome] at h; cases h; exact hkn)))
          have hne : ((ms.length : Int) == 2) = false := by rw [beq_eq_false_iff_ne]; omega
          clear hsome hsome3 hkn hg2 hg3
          have HF := set_cells (w := w3) (g := w.heap.size) [.string ⟨#[]⟩, .int .i64 0, .int .i64 0, .slice none 0 0] 0 (fun j hj => by
            match j, hj with
            | 0, _ => exact ⟨_, hr0⟩
            | 1, _ => exact ⟨_, hr1⟩
            | 2, _ => exact ⟨_, hr2⟩
            | 3, _ => exact ⟨_, hr3⟩)
          have hbW := below_setCells (Nat.le_refl w.heap.size) [.string ⟨#[]⟩, .int .i64 0, .int .i64 0, .slice none 0 0] 0 hbF
          go_wp2
          change bodyPost _ _ _ _ _ (w3.setCells w.heap.size 0 [.string ⟨#[]⟩, .int .i64 0, .int .i64 0, .slice none 0 0])
          generalize w3.setCells w.heap.size 0 [.string ⟨#[]⟩, .int .i64 0, .int .i64 0, .slice none 0 0] = Wf at *
          have qf0 := HF 0 _ rfl
          have qf1 := HF 1 _ rfl
          have qf2 := HF 2 _ rfl
          have qf3 := HF 3 _ rfl
          simp only [Nat.zero_add] at qf0 qf1 qf2 qf3
          exact bodyPost_ret (v := .tuple #[.agg #[.string ⟨#[]⟩, .int .i64 0, .int .i64 0, .slice none 0 0], .bool false]) (by simp [results, Tryz.results16, go_sem, qf0, qf1, qf2, qf3]) rfl ⟨⟨⟨#[]⟩, 0, 0, []⟩, Lib.hid E.out.1.symm, none, 0, 0, rfl, by omega, ⟨by simp, .inl ⟨rfl, rfl⟩⟩, by rw [E.out.2], hbW⟩
        · obtain ⟨n0, n1, hns⟩ : ∃ n0 n1, ms = [n0, n1] := by
            match ms, hkn with
            | [n0, n1], _ => exact ⟨n0, n1, rfl⟩
          subst hns
          have HO := Lib.hid (oN_text okCoat_name HC.out hsome hsome3)
          have hm := (listL_range hsome3).1
          obtain ⟨g, rfl, hg1, hgg, hcs⟩ := (hg2.below hb3).ints (by simp)
          have hn0 := hcs 0 _ rfl
          have hn1 := hcs 1 _ rfl
          have hbb3 : b < w3.heap.size := by omega
          have hka : ∀ o, (w3.alloc o).drew.cell? ⟨b, off, none⟩ = some (.string p0) := fun o => (World.cell?_alloc_lt w3 o _ hbb3).trans hc0
          have hk0 : ∀ o, (w3.alloc o).drew.cell? ⟨g, 0, none⟩ = some (.int .i64 n0) := fun o => (World.cell?_alloc_lt w3 o _ hgg).trans hn0
          have hk1 : ∀ o, (w3.alloc o).drew.cell? ⟨g, 1, none⟩ = some (.int .i64 n1) := fun o => (World.cell?_alloc_lt w3 o _ hgg).trans hn1
          clear hcs hg2 hsome hsome3 hkn
          go_wp2_with fail
          go_region_held3 (fun w' => w'.cell? ⟨b, off, none⟩ = some (.string p0) ∧ w'.cell? ⟨g, 0, none⟩ = some (.int .i64 n0) ∧ w'.cell? ⟨g, 1, none⟩ = some (.int .i64 n1)) (first | exact ⟨hc0, hn0, hn1⟩ | exact ⟨hka _, hk0 _, hk1 _⟩) (first | fail)
          have hbx : Below w3.heap.size w3 (w3.alloc (.cells #[.string p0, .int .i64 n0, .int .i64 n1, .slice A3 ns.length c3] 36)).drew := ((Below.refl _ _).alloc (Nat.le_refl _) _).drew
          have hxR : (w3.alloc (.cells #[.string p0, .int .i64 n0, .int .i64 n1, .slice A3 ns.length c3] 36)).drew.rangeAt w3.heap.size 0 [.string p0, .int .i64 n0, .int .i64 n1, .slice A3 ns.length c3] := range_new w3 #[.string p0, .int .i64 n0, .int .i64 n1, .slice A3 ns.length c3] 36
          obtain ⟨W2, hW2⟩ : ∃ W, (w3.alloc (.cells #[.string p0, .int .i64 n0, .int .i64 n1, .slice A3 ns.length c3] 36)).drew = W := ⟨_, rfl⟩
          rw [hW2] at hbx hxR
          replace hr0 := cell_later hbx hr0
          replace hf0 := free_later hf0 (by simp; omega) hbx
          replace hr1 := cell_later hbx hr1
          replace hf1 := free_later hf1 (by simp; omega) hbx
          replace hr2 := cell_later hbx hr2
          replace hf2 := free_later hf2 (by simp; omega) hbx
          replace hr3 := cell_later hbx hr3
          replace hf3 := free_later hf3 (by simp; omega) hbx
          replace hbF := hbF.trans (hbx.mono hbF.size)
          replace hg3 := hg3.below hbx
          have hzz := hbx.size
          have hy0 := hxR 0 _ rfl
          have hy1 := hxR 1 _ rfl
          have hy2 := hxR 2 _ rfl
          have hy3 := hxR 3 _ rfl
          simp only [Nat.zero_add] at hy0 hy1 hy2 hy3
          clear hc0 hc1 hc2 hka hn0 hn1 hk0 hk1 hbx
          rename_i hheld; clear hheld
          go_wp2_with fail
          try rw [hW2]
          clear hW2
          obtain ⟨U, hU⟩ : ∃ U, coatText ⟨p0, n0, n1, ns⟩ = U := ⟨_, rfl⟩
          have hcall := i_CoatText ⟨p0, n0, n1, ns⟩ A3 ns.length c3 W2 (by show p0.size ≤ _; omega) hg3.rd (by obtain ⟨F, _, hO⟩ := OL.of_own hg3.own.2 hg3.own.1; exact hO.max) (hL.below hbF)
          rw [hU] at hcall
          have HU := Lib.hid hU; clear hU
          refine hcall.mono ?_
          rintro e w4 ⟨rfl, hb4⟩
          clear hcall
          replace hr0 := cell_later hb4 hr0
          replace hf0 := free_later hf0 (by simp; omega) hb4
          replace hr1 := cell_later hb4 hr1
          replace hf1 := free_later hf1 (by simp; omega) hb4
          replace hr2 := cell_later hb4 hr2
          replace hf2 := free_later hf2 (by simp; omega) hb4
          replace hr3 := cell_later hb4 hr3
          replace hf3 := free_later hf3 (by simp; omega) hb4
          replace hy0 := cell_later hb4 hy0
          replace hy1 := cell_later hb4 hy1
          replace hy2 := cell_later hb4 hy2
          replace hy3 := cell_later hb4 hy3
          replace hbF := hbF.trans (hb4.mono hbF.size)
          replace hg3 := hg3.below hb4
          clear hxR
          by_cases hq : U.data.toList = s.data.toList
          · have hO : oN okCoat4 s = some (p0, n0, n1, ns) := by rw [HO.out, if_pos (by have := HU.out; unfold coatText at this; rw [this]; exact hq)]
            have E := Lib.hid (coat_some (coatO_is hO))
            have h12 := okCoat_len (x := ⟨p0, n0, n1, ns⟩) (oN_ok hO)
            simp only at h12
            have ht : (U.toList == s.toList) = true := by rw [ByteArray.toList_eq, ByteArray.toList_eq, hq]; simp
            clear hq hO
            have HF := set_cells (w := w4) (g := w.heap.size) [.string p0, .int .i64 n0, .int .i64 n1, .slice A3 ns.length c3] 0 (fun j hj => by
              match j, hj with
              | 0, _ => exact ⟨_, hr0⟩
              | 1, _ => exact ⟨_, hr1⟩
              | 2, _ => exact ⟨_, hr2⟩
              | 3, _ => exact ⟨_, hr3⟩)
            have hbW := below_setCells (Nat.le_refl w.heap.size) [.string p0, .int .i64 n0, .int .i64 n1, .slice A3 ns.length c3] 0 hbF
            have hgW := (hg3.touch (Touch.setCells (F := fun k => k = w.heap.size) (g := w.heap.size) rfl [.string p0, .int .i64 n0, .int .i64 n1, .slice A3 ns.length c3] 0) (fun k hk e => by have := (hg3.lt k hk).1; omega)).mono (base' := w.heap.size) (by omega)
            have hoW := hgW.own.2
            clear hgW hg3
            go_wp2
            change bodyPost _ _ _ _ _ (w4.setCells w.heap.size 0 [.string p0, .int .i64 n0, .int .i64 n1, .slice A3 ns.length c3])
            generalize w4.setCells w.heap.size 0 [.string p0, .int .i64 n0, .int .i64 n1, .slice A3 ns.length c3] = Wf at *
            have qf0 := HF 0 _ rfl
            have qf1 := HF 1 _ rfl
            have qf2 := HF 2 _ rfl
            have qf3 := HF 3 _ rfl
            simp only [Nat.zero_add] at qf0 qf1 qf2 qf3
            exact bodyPost_ret (v := .tuple #[.agg #[.string p0, .int .i64 n0, .int .i64 n1, .slice A3 ns.length c3], .bool true]) (by simp [results, Tryz.results16, go_sem, qf0, qf1, qf2, qf3]) rfl ⟨⟨p0, n0, n1, ns⟩, Lib.hid E.out.1.symm, A3, ns.length, c3, rfl, by omega, hoW, by rw [E.out.2], hbW⟩
          · have E := Lib.hid (coat_none (coatO_of (by rw [HO.out, if_neg (by have := HU.out; unfold coatText at this; rw [this]; exact hq)])))
            have ht : (U.toList == s.toList) = false := by rw [ByteArray.toList_eq, ByteArray.toList_eq, beq_eq_false_iff_ne]; exact hq
            clear hq hg3
            have HF := set_cells (w := w4) (g := w.heap.size) [.string ⟨#[]⟩, .int .i64 0, .int .i64 0, .slice none 0 0] 0 (fun j hj => by
              match j, hj with
              | 0, _ => exact ⟨_, hr0⟩
              | 1, _ => exact ⟨_, hr1⟩
              | 2, _ => exact ⟨_, hr2⟩
              | 3, _ => exact ⟨_, hr3⟩)
            have hbW := below_setCells (Nat.le_refl w.heap.size) [.string ⟨#[]⟩, .int .i64 0, .int .i64 0, .slice none 0 0] 0 hbF
            go_wp2
            change bodyPost _ _ _ _ _ (w4.setCells w.heap.size 0 [.string ⟨#[]⟩, .int .i64 0, .int .i64 0, .slice none 0 0])
            generalize w4.setCells w.heap.size 0 [.string ⟨#[]⟩, .int .i64 0, .int .i64 0, .slice none 0 0] = Wf at *
            have qf0 := HF 0 _ rfl
            have qf1 := HF 1 _ rfl
            have qf2 := HF 2 _ rfl
            have qf3 := HF 3 _ rfl
            simp only [Nat.zero_add] at qf0 qf1 qf2 qf3
            exact bodyPost_ret (v := .tuple #[.agg #[.string ⟨#[]⟩, .int .i64 0, .int .i64 0, .slice none 0 0], .bool false]) (by simp [results, Tryz.results16, go_sem, qf0, qf1, qf2, qf3]) rfl ⟨⟨⟨#[]⟩, 0, 0, []⟩, Lib.hid E.out.1.symm, none, 0, 0, rfl, by omega, ⟨by simp, .inl ⟨rfl, rfl⟩⟩, by rw [E.out.2], hbW⟩
  · have E := Lib.hid (coat_none (coatO_of (oN_wlen (s := s) okCoat_name (by rw [hl]; exact h3))))
    have hne : ((n : Int) == 3) = false := by rw [beq_eq_false_iff_ne]; omega
    clear hl hgl h3
    have HF := set_cells (w := w1) (g := w.heap.size) [.string ⟨#[]⟩, .int .i64 0, .int .i64 0, .slice none 0 0] 0 (fun j hj => by
      match j, hj with
      | 0, _ => exact ⟨_, hr0⟩
      | 1, _ => exact ⟨_, hr1⟩
      | 2, _ => exact ⟨_, hr2⟩
      | 3, _ => exact ⟨_, hr3⟩)
    have hbW := below_setCells (Nat.le_refl w.heap.size) [.string ⟨#[]⟩, .int .i64 0, .int .i64 0, .slice none 0 0] 0 hbF
    go_wp2
    change bodyPost _ _ _ _ _ (w1.setCells w.heap.size 0 [.string ⟨#[]⟩, .int .i64 0, .int .i64 0, .slice none 0 0])
    generalize w1.setCells w.heap.size 0 [.string ⟨#[]⟩, .int .i64 0, .int .i64 0, .slice none 0 0] = Wf at *
    have qf0 := HF 0 _ rfl
    have qf1 := HF 1 _ rfl
    have qf2 := HF 2 _ rfl
    have qf3 := HF 3 _ rfl
    simp only [Nat.zero_add] at qf0 qf1 qf2 qf3
    exact bodyPost_ret (v := .tuple #[.agg #[.string ⟨#[]⟩, .int .i64 0, .int .i64 0, .slice none 0 0], .bool false]) (by simp [results, Tryz.results16, go_sem, qf0, qf1, qf2, qf3]) rfl ⟨⟨⟨#[]⟩, 0, 0, []⟩, Lib.hid E.out.1.symm, none, 0, 0, rfl, by omega, ⟨by simp, .inl ⟨rfl, rfl⟩⟩, by rw [E.out.2], hbW⟩

end Go.Proofs.YtbdjhecbingcjaaGreatDoor
