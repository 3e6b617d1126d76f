/- Reading: Step. Printed by a program of mine. -/
import Derived.Test.YtiaibjdppmgjlaaDoorRows
import Derived.Test.YtiaibjdppmgjlaaDoorWordsNL
import Derived.Test.YtiaibjdppmgjlaaDoorCStep
import Derived.Test.YtiaibjdppmgjlaaDoorOrd
import Derived.Test.YtiaibjdppmgjlaaDoorBasic
import Derived.Test.YtiaibjdppmgjlaaDoorRes
import Derived.Test.YtiaibjdppmgjlaaDoorTwo
import Derived.Deep.RegionHeld3
namespace Go.Proofs.YtiaibjdppmgjlaaDoor
set_option linter.unusedVariables false
set_option linter.unusedSimpArgs false
set_option linter.unusedSectionVars false
open Go.RowKit

/-- numbers that rise within bounds -/
def risesB (ns : List Int) : Bool := chainB (fun k => inB k 0 11) (fun x y => decide (x < y)) none ns
theorem rises_range {ns : List Int} (h : risesB ns = true) : (∀ n ∈ ns, 0 ≤ n ∧ n ≤ 11) ∧ ns.length ≤ 12 := by
  have hs := chain_sorted (fun x y z h1 h2 => by simp only [decide_eq_true_eq] at *; omega) ns none h
  have hr : ∀ n ∈ ns, 0 ≤ n ∧ n ≤ 11 := fun n hn => by
    have := hs.1 n hn
    unfold inB at this
    simpa [Bool.and_eq_true, decide_eq_true_eq] using this
  refine ⟨hr, ?_⟩
  have hk : ∀ (k : Nat) (l : List Int), l.Pairwise (fun x y => decide (x < y) = true) → (∀ n ∈ l, (k : Int) ≤ n ∧ n ≤ 11) → k + l.length ≤ 12 ∨ l = [] := by
    intro k l
    induction l generalizing k with
    | nil => intro _ _; exact .inr rfl
    | cons x t ih =>
      intro hp hb
      have hx := hb x (List.mem_cons_self ..)
      rw [List.pairwise_cons] at hp
      rcases ih (k + 1) hp.2 (fun n hn => by
        have h1 := of_decide_eq_true (hp.1 n hn)
        have h2 := hb n (List.mem_cons_of_mem _ hn)
        omega) with h | h
      · exact .inl (by rw [List.length_cons]; omega)
      · subst h; exact .inl (by simp; omega)
  rcases hk 0 ns hs.2.1 (fun n hn => ⟨(hr n hn).1, (hr n hn).2⟩) with h | h
  · omega
  · subst h; simp
def okStep4 (p : ByteArray) (n0 n1 : Int) (ns : List Int) : Bool := nameB p && (inB n0 1 200 && (inB n1 0 20 && risesB ns))
def okStep (x : DStep) : Bool := okStep4 x.fId x.fHours x.fClamps x.fAfter
theorem okStep_name (p : ByteArray) (n0 n1 : Int) (ns : List Int) (h : okStep4 p n0 n1 ns = true) : nameB p = true := by
  unfold okStep4 at h
  simp only [Bool.and_eq_true] at h
  exact h.1
def stepO (s : ByteArray) : Option DStep := (oN okStep4 s).map fun y => ⟨y.1, y.2.1, y.2.2.1, y.2.2.2⟩
def stepV (s : ByteArray) : DStep := (stepO s).getD ⟨⟨#[]⟩, 0, 0, []⟩
def stepOk (s : ByteArray) : Bool := (stepO s).isSome
def stepText (x : DStep) : ByteArray := textN okStep4 x.fId x.fHours x.fClamps x.fAfter
theorem stepO_of {s : ByteArray} (h : oN okStep4 s = none) : stepO s = none := by unfold stepO; rw [h]; rfl
theorem stepO_is {s p : ByteArray} {n0 n1 : Int} {ns : List Int} (h : oN okStep4 s = some (p, n0, n1, ns)) : stepO s = some ⟨p, n0, n1, ns⟩ := by unfold stepO; rw [h]; rfl
theorem step_none {s : ByteArray} (h : stepO s = none) : stepV s = ⟨⟨#[]⟩, 0, 0, []⟩ ∧ stepOk s = false := by unfold stepV stepOk; rw [h]; exact ⟨rfl, rfl⟩
theorem step_some {s : ByteArray} {x : DStep} (h : stepO s = some x) : stepV s = x ∧ stepOk s = true := by unfold stepV stepOk; rw [h]; exact ⟨rfl, rfl⟩
theorem nl_name_size {s : ByteArray} (h : nameB s = true) : s.size ≤ 10 := by
  unfold nameB at h
  rw [Bool.and_eq_true, Bool.and_eq_true] at h
  have := of_decide_eq_true h.2.2
  omega
theorem nl_word_size {s p : ByteArray} {k : Nat} (h : (wordsB s)[k]? = some p) : p.size ≤ s.size := by
  have h1 := List.mem_of_getElem? h
  unfold wordsB at h1
  obtain ⟨j, hj⟩ := List.mem_iff_getElem?.1 (List.mem_filter.1 h1).1
  exact piece_size hj
theorem oN_ok {ok : ByteArray → Int → Int → List Int → Bool} {s p : ByteArray} {n0 n1 : Int} {ns : List Int} (h : oN ok s = some (p, n0, n1, ns)) : ok p n0 n1 ns = true := by
  obtain ⟨a, t, u, m0, m1, ms, _, _, _, h4, h5⟩ := oN_some h
  cases h5
  exact h4
theorem okStep_len {x : DStep} (h : okStep x = true) : x.fAfter.length ≤ 12 := by
  unfold okStep okStep4 at h
  simp only [Bool.and_eq_true] at h
  exact (rises_range h.2.2.2).2


/-- how far the rising has been seen -/
def RN (ns : List Int) (k : Nat) : Prop := risesB ns = chainB (fun k => inB k 0 11) (fun x y => decide (x < y)) (prevOf ns k) (ns.drop k)
theorem rn_zero (ns : List Int) : RN ns 0 := rfl
theorem rn_bad {ns : List Int} {k : Nat} {x : Int} (h : RN ns k) (hx : ns[k]? = some x) (hb : inB x 0 11 = false) : risesB ns = false := by
  unfold RN at h
  rw [h]
  rcases k with _ | j
  · rw [chain_first hx, hb, Bool.false_and]
  · obtain ⟨p, hp⟩ : ∃ p, ns[j]? = some p := ⟨_, List.getElem?_eq_getElem (by have := (List.getElem?_eq_some_iff.1 hx).1; omega)⟩
    rw [chain_next hp hx, hb, Bool.false_and]
theorem rn_first {ns : List Int} {x : Int} (h : RN ns 0) (hx : ns[0]? = some x) (hb : inB x 0 11 = true) : RN ns 1 := by
  unfold RN at h ⊢
  rw [h, chain_first hx, hb, Bool.true_and]
theorem rn_badlt {ns : List Int} {j : Nat} {p x : Int} (h : RN ns (j + 1)) (hp : ns[j]? = some p) (hx : ns[j + 1]? = some x) (hlt : ¬ p < x) : risesB ns = false := by
  unfold RN at h
  rw [h, chain_next hp hx, decide_eq_false hlt, Bool.false_and, Bool.and_false]
theorem rn_next {ns : List Int} {j : Nat} {p x : Int} (h : RN ns (j + 1)) (hp : ns[j]? = some p) (hx : ns[j + 1]? = some x) (hb : inB x 0 11 = true) (hlt : p < x) : RN ns (j + 2) := by
  unfold RN at h ⊢
  rw [h, chain_next hp hx, hb, decide_eq_true hlt, Bool.true_and, Bool.true_and]
theorem rn_end {ns : List Int} {n : Nat} (h : RN ns n) (hl : ns.length = n) : risesB ns = true := by
  unfold RN at h
  rw [h, List.drop_of_length_le (by omega)]
  cases prevOf ns n <;> rfl

set_option maxRecDepth 100000 in
set_option maxHeartbeats 2000000 in
theorem s_l00Rises (A : Option Addr) (n c : Nat) (ns : List Int) (w : World) (hr : Rd intE w A n ns) (hn : n ≤ maxLen) :
    Calls Tryd.prog 29 #[.slice A n c, .int .i64 0, .int .i64 11] w (RetB (risesB ns) w) := by
  unfold maxLen at hn
  have Hl := Lib.hid hr.1
  go_enter Tryd.func29, Tryd.ntmps29
  go_wp2_with fail
  go_loopw [7] (fun i wr => ∃ k : Nat, k ≤ n ∧ i = .int .i64 k ∧ Below w.heap.size w wr ∧ Hid (RN ns k)) (fun i _ => n - (intOf i).toNat)
  case atStart => exact ⟨0, Nat.zero_le _, rfl, Below.refl _ _, Lib.hid (rn_zero ns)⟩
  case round =>
    obtain ⟨k, hk, rfl, hb, HH⟩ := hrel
    by_cases hlt : k < n
    · obtain ⟨b, off, x, rfl, hx, hc⟩ := hr.get hlt
      have hx0 := range_below (B := 0) hc hb 0 (.int .i64 x) rfl
      simp only [intE, Nat.mul_one, Nat.add_zero] at hx0
      have C0 : ∀ W, Calls Tryd.prog 27 #[.int .i64 x, .int .i64 0, .int .i64 11] (wr.drewN W) fun e w' => e = .returned (.bool (inB x 0 11)) ∧ wr.drewN W = w' := fun W => s_l00In x 0 11 _
      rcases hbx : inB x 0 11 with _ | _
      · have E := Lib.hid (rn_bad HH.out hx hbx)
        rw [hbx] at C0
        clear hbx hx hc
        go_wp2_with fail
        go_quiet (first | (go_at_call 27; with_reducible exact quiet_left (C0 _)))
        go_wp2
        go_ret
        exact ⟨ret_bool E.out.symm, below_drewN hb _⟩
      · rw [hbx] at C0
        obtain hk0 | ⟨j, hk0⟩ : k = 0 ∨ ∃ j, k = j + 1 := by cases k with
          | zero => exact .inl rfl
          | succ j => exact .inr ⟨j, rfl⟩
        · subst hk0
          have HC := Lib.hid (rn_first HH.out hx hbx)
          simp only [Nat.add_zero] at hx0
          clear hbx hx hc HH
          go_wp2_with fail
          go_quiet (first | (go_at_call 27; with_reducible exact quiet_left (C0 _)))
          go_wp2
          first | (refine ⟨⟨1, by omega, by go_num, below_drewN hb _, HC⟩, ?_⟩; (simp [intOf]; omega)) | (go_roundw; (case rel => first | exact ⟨1, by omega, by go_num, below_drewN hb _, HC⟩ | ((try refine ⟨trivial, ?_⟩); (repeat apply Exists.intro); exact ⟨⟨1, by omega, by go_num, below_drewN hb _, HC⟩, rfl⟩)); (case measure => (simp [intOf]; omega)))
        · subst hk0
          obtain ⟨b', off', p, hA', hp, hcp⟩ := hr.get (k := j) (by omega)
          cases hA'
          have hp0 := range_below (B := 0) hcp hb 0 (.int .i64 p) rfl
          simp only [intE, Nat.mul_one, Nat.add_zero] at hp0
          by_cases hlp : p < x
          · have HC := Lib.hid (rn_next HH.out hp hx hbx hlp)
            have hd1 : decide (x ≤ p) = false := decide_eq_false (by omega)
            have hd2 : decide (p ≥ x) = false := decide_eq_false (by omega)
            clear hbx hx hc HH hp hcp
            go_wp2_with fail
            go_quiet (first | (go_at_call 27; with_reducible exact quiet_left (C0 _)))
            go_wp2
            first | (refine ⟨⟨j + 2, by omega, by go_num, below_drewN hb _, HC⟩, ?_⟩; (simp [intOf]; omega)) | (go_roundw; (case rel => first | exact ⟨j + 2, by omega, by go_num, below_drewN hb _, HC⟩ | ((try refine ⟨trivial, ?_⟩); (repeat apply Exists.intro); exact ⟨⟨j + 2, by omega, by go_num, below_drewN hb _, HC⟩, rfl⟩)); (case measure => (simp [intOf]; omega)))
          · have E := Lib.hid (rn_badlt HH.out hp hx hlp)
            have hd1 : decide (x ≤ p) = true := decide_eq_true (by omega)
            have hd2 : decide (p ≥ x) = true := decide_eq_true (by omega)
            clear hbx hx hc HH hp hcp
            go_wp2_with fail
            go_quiet (first | (go_at_call 27; with_reducible exact quiet_left (C0 _)))
            go_wp2
            go_ret
            exact ⟨ret_bool E.out.symm, below_drewN hb _⟩
    · have HN : Hid (RN ns n) := Lib.hid ((show k = n from by omega) ▸ HH.out)
      have E := Lib.hid (rn_end HN.out Hl.out)
      go_wp2
      go_ret
      exact ⟨ret_bool E.out.symm, hb⟩

set_option maxRecDepth 100000 in
set_option maxHeartbeats 2000000 in
theorem s_l17One (b off : Nat) (x : DStep) (A : Option Addr) (n c : Nat) (w : World) (hg : x.fId.size ≤ maxLen) (hc : w.rangeAt b off [.string x.fId, .int .i64 x.fHours, .int .i64 x.fClamps, .slice A n c]) (hr : Rd intE w A n x.fAfter) (hn : n ≤ maxLen) :
    Calls Tryd.prog 17 #[.pointer (some ⟨b, off, none⟩)] w (RetB (okStep x) w) := by
  have hc0 := hc 0 _ rfl
  have hc1 := hc 1 _ rfl
  have hc2 := hc 2 _ rfl
  have hc3 := hc 3 _ rfl
  rw [Nat.add_zero] at hc0
  clear hc
  go_enter Tryd.func17, Tryd.ntmps17
  go_wp2_with fail
  refine (s_l01Name x.fId _ (by assumption)).mono ?_
  rintro e w' ⟨rfl, rfl⟩
  rcases h0 : nameB x.fId with _ | _
  · have E : Hid (okStep x = false) := Lib.hid (by unfold okStep okStep4; rw [h0]; rfl)
    clear h0
    go_wp2
    go_ret
    exact ⟨ret_bool E.out.symm, Below.refl _ _⟩
  · have H0 := Lib.hid h0; clear h0
    go_wp2_with fail
    refine (s_l00In _ _ _ _).mono ?_
    rintro e w' ⟨rfl, rfl⟩
    rcases h1 : inB x.fHours 1 200 with _ | _
    · have E : Hid (okStep x = false) := Lib.hid (by unfold okStep okStep4; rw [H0.out, h1]; rfl)
      clear h1
      go_wp2
      go_ret
      exact ⟨ret_bool E.out.symm, Below.refl _ _⟩
    · have H1 := Lib.hid h1; clear h1
      go_wp2_with fail
      refine (s_l00In _ _ _ _).mono ?_
      rintro e w' ⟨rfl, rfl⟩
      rcases h2 : inB x.fClamps 0 20 with _ | _
      · have E : Hid (okStep x = false) := Lib.hid (by unfold okStep okStep4; rw [H0.out, H1.out, h2]; rfl)
        clear h2
        go_wp2
        go_ret
        exact ⟨ret_bool E.out.symm, Below.refl _ _⟩
      · have H2 := Lib.hid h2; clear h2
        go_wp2_with fail
        refine (s_l00Rises A n c x.fAfter _ hr hn).mono ?_
        rintro e w' ⟨rfl, hb⟩
        go_wp2
        go_ret
        exact ⟨ret_bool (by unfold okStep okStep4; rw [H0.out, H1.out, H2.out]; rfl), hb⟩

set_option maxRecDepth 100000 in
set_option maxHeartbeats 2000000 in
theorem i_validStep (x : DStep) (A : Option Addr) (n c : Nat) (w : World) (hg : x.fId.size ≤ maxLen) (hr : Rd intE w A n x.fAfter) (hn : n ≤ maxLen) :
    Calls Tryd.prog 33 #[.agg #[.string x.fId, .int .i64 x.fHours, .int .i64 x.fClamps, .slice A n c]] w (RetB (okStep x) w) := by
  unfold maxLen at hn
  have Hl := Lib.hid hr.1
  have hR := range_new w #[.string x.fId, .int .i64 x.fHours, .int .i64 x.fClamps, .slice A n c] 24
  have hb0 : Below w.heap.size w (w.alloc (.cells #[.string x.fId, .int .i64 x.fHours, .int .i64 x.fClamps, .slice A n c] 24)) := (Below.refl _ _).alloc (Nat.le_refl _) _
  obtain ⟨W0, hW0⟩ : ∃ W0, w.alloc (.cells #[.string x.fId, .int .i64 x.fHours, .int .i64 x.fClamps, .slice A n c] 24) = W0 := ⟨_, rfl⟩
  rw [hW0] at hR hb0
  have hc0 := hR 0 _ rfl
  have hc1 := hR 1 _ rfl
  have hc2 := hR 2 _ rfl
  have hc3 := hR 3 _ rfl
  simp only [Nat.zero_add] at hc0 hc1 hc2 hc3
  obtain ⟨bx, hbx⟩ : ∃ q, w.heap.size = q := ⟨_, rfl⟩
  rw [hbx] at hc0 hc1 hc2 hc3
  have hr0 := hr.below hb0
  have HB := Lib.hid hb0
  clear hR hb0
  go_enter Tryd.func33, Tryd.ntmps33
  go_wp2_with fail
  try rw [hW0]
  try rw [hbx]
  clear hW0
  go_wp2_with fail
  go_loopw [8] (fun i wr => ∃ k : Nat, k ≤ n ∧ i = .int .i64 k ∧ Below W0.heap.size W0 wr ∧ Hid (RN x.fAfter k)) (fun i _ => n - (intOf i).toNat)
  case atStart => exact ⟨0, Nat.zero_le _, rfl, Below.refl _ _, Lib.hid (rn_zero x.fAfter)⟩
  case round =>
    obtain ⟨k, hk, rfl, hb, HH⟩ := hrel
    have hw0 := cell_later hb hc0
    have hw1 := cell_later hb hc1
    have hw2 := cell_later hb hc2
    have hw3 := cell_later hb hc3
    have hbZ := HB.out.trans (hb.mono HB.out.size)
    clear hc0 hc1 hc2 hc3
    by_cases hlt : k < n
    · obtain ⟨b, off, y, rfl, hx, hc⟩ := hr0.get hlt
      have hx0 := range_below (B := 0) hc hb 0 (.int .i64 y) rfl
      simp only [intE, Nat.mul_one, Nat.add_zero] at hx0
      rcases hby : inB y 0 11 with _ | _
      · have E : Hid (okStep x = false) := Lib.hid (by unfold okStep okStep4; rw [rn_bad HH.out hx hby]; simp)
        have HY := Lib.hid hby
        clear hby hx hc
        go_wp2_with fail
        refine (i_within y 0 11 _).mono ?_
        rintro e w' ⟨rfl, rfl⟩
        rw [HY.out]
        go_wp2
        go_ret
        exact ⟨ret_bool E.out.symm, hbZ⟩
      · have HY := Lib.hid hby
        obtain hk0 | ⟨j, hk0⟩ : k = 0 ∨ ∃ j, k = j + 1 := by cases k with
          | zero => exact .inl rfl
          | succ j => exact .inr ⟨j, rfl⟩
        · subst hk0
          have HC := Lib.hid (rn_first HH.out hx hby)
          simp only [Nat.add_zero] at hx0
          clear hby hx hc HH
          go_wp2_with fail
          refine (i_within y 0 11 _).mono ?_
          rintro e w' ⟨rfl, rfl⟩
          rw [HY.out]
          go_wp2
          first | (refine ⟨⟨1, by omega, by go_num, hb, HC⟩, ?_⟩; (simp [intOf]; omega)) | (go_roundw; (case rel => first | exact ⟨1, by omega, by go_num, hb, HC⟩ | ((try refine ⟨trivial, ?_⟩); (repeat apply Exists.intro); exact ⟨⟨1, by omega, by go_num, hb, HC⟩, rfl⟩)); (case measure => (simp [intOf]; omega)))
        · subst hk0
          obtain ⟨b', off', p, hA', hp, hcp⟩ := hr0.get (k := j) (by omega)
          cases hA'
          have hp0 := range_below (B := 0) hcp hb 0 (.int .i64 p) rfl
          simp only [intE, Nat.mul_one, Nat.add_zero] at hp0
          by_cases hlp : p < y
          · have HC := Lib.hid (rn_next HH.out hp hx hby hlp)
            clear hby hx hc HH hp hcp
            go_wp2_with fail
            refine (i_within y 0 11 _).mono ?_
            rintro e w' ⟨rfl, rfl⟩
            rw [HY.out]
            go_wp2
            first | (refine ⟨⟨j + 2, by omega, by go_num, hb, HC⟩, ?_⟩; (simp [intOf]; omega)) | (go_roundw; (case rel => first | exact ⟨j + 2, by omega, by go_num, hb, HC⟩ | ((try refine ⟨trivial, ?_⟩); (repeat apply Exists.intro); exact ⟨⟨j + 2, by omega, by go_num, hb, HC⟩, rfl⟩)); (case measure => (simp [intOf]; omega)))
          · have E : Hid (okStep x = false) := Lib.hid (by unfold okStep okStep4; rw [rn_badlt HH.out hp hx hlp]; simp)
            clear hby hx hc HH hp hcp
            go_wp2_with fail
            refine (i_within y 0 11 _).mono ?_
            rintro e w' ⟨rfl, rfl⟩
            rw [HY.out]
            go_wp2
            go_ret
            exact ⟨ret_bool E.out.symm, hbZ⟩
    · have HN : Hid (RN x.fAfter n) := Lib.hid ((show k = n from by omega) ▸ HH.out)
      have HE := Lib.hid (rn_end HN.out Hl.out)
      go_wp2_with fail
      refine (i_IsName x.fId _ (by assumption)).mono ?_
      rintro e w' ⟨rfl, rfl⟩
      rcases h0 : nameB x.fId with _ | _
      · have E : Hid (okStep x = false) := Lib.hid (by unfold okStep okStep4; rw [h0]; rfl)
        clear h0
        go_wp2
        go_ret
        exact ⟨ret_bool E.out.symm, hbZ⟩
      · have H0 := Lib.hid h0; clear h0
        go_wp2_with fail
        refine (i_within _ _ _ _).mono ?_
        rintro e w' ⟨rfl, rfl⟩
        rcases h1 : inB x.fHours 1 200 with _ | _
        · have E : Hid (okStep x = false) := Lib.hid (by unfold okStep okStep4; rw [H0.out, h1]; rfl)
          clear h1
          go_wp2
          go_ret
          exact ⟨ret_bool E.out.symm, hbZ⟩
        · have H1 := Lib.hid h1; clear h1
          go_wp2_with fail
          refine (i_within _ _ _ _).mono ?_
          rintro e w' ⟨rfl, rfl⟩
          go_wp2
          go_ret
          exact ⟨ret_bool (by unfold okStep okStep4; rw [H0.out, H1.out, HE.out, Bool.and_true]; rfl), hbZ⟩

set_option maxRecDepth 100000 in
set_option maxHeartbeats 4000000 in
theorem i_StepText (x : DStep) (A : Option Addr) (n c : Nat) (w : World) (hg : x.fId.size ≤ 1048576) (hr : Rd intE w A n x.fAfter) (hn : n ≤ maxLen) (hL : LibW w) :
    Calls Tryd.prog 20 #[.agg #[.string x.fId, .int .i64 x.fHours, .int .i64 x.fClamps, .slice A n c]] w fun e w' => e = .returned (.string (stepText x)) ∧ Below w.heap.size w w' := by
  have hR := range_new w #[.string x.fId, .int .i64 x.fHours, .int .i64 x.fClamps, .slice A n c] 24
  have hb0 : Below w.heap.size w (w.alloc (.cells #[.string x.fId, .int .i64 x.fHours, .int .i64 x.fClamps, .slice A n c] 24)) := (Below.refl _ _).alloc (Nat.le_refl _) _
  obtain ⟨W0, hW0⟩ : ∃ W0, w.alloc (.cells #[.string x.fId, .int .i64 x.fHours, .int .i64 x.fClamps, .slice A n c] 24) = W0 := ⟨_, rfl⟩
  have hsz : W0.heap.size = w.heap.size + 1 := by rw [← hW0]; simp
  rw [hW0] at hR hb0
  have hc0 := hR 0 _ rfl
  have hc1 := hR 1 _ rfl
  have hc2 := hR 2 _ rfl
  have hc3 := hR 3 _ rfl
  simp only [Nat.zero_add] at hc0 hc1 hc2 hc3
  clear hR
  go_enter Tryd.func20, Tryd.ntmps20
  go_wp2_with fail
  try rw [hW0]
  clear hW0
  refine (i_validStep x A n c _ (by unfold maxLen; omega) (hr.below hb0) hn).mono ?_
  rintro e w1 ⟨rfl, hb⟩
  replace hc0 := cell_later hb hc0
  replace hc1 := cell_later hb hc1
  replace hc2 := cell_later hb hc2
  replace hc3 := cell_later hb hc3
  have hbF := hb0.trans (hb.mono hb0.size)
  have hz1 := hb.size
  rw [hsz] at hz1
  rcases hk : okStep x with _ | _
  · have E : Hid (stepText x = ⟨#[]⟩) := Lib.hid (by unfold stepText textN; rw [if_neg (by unfold okStep at hk; rw [hk]; simp)])
    clear hk
    go_wp2
    go_ret
    exact ⟨by rw [E.out]; rfl, hbF⟩
  · have E : Hid (stepText x = x.fId ++ ⟨#[32]⟩ ++ ofL (textL [x.fHours, x.fClamps]) ++ ⟨#[32]⟩ ++ ofL (textL x.fAfter)) := Lib.hid (by unfold stepText textN; exact if_pos hk)
    have hk' := hk
    unfold okStep okStep4 at hk'
    simp only [Bool.and_eq_true] at hk'
    have hq := rises_range hk'.2.2.2
    have hnm := nl_name_size hk'.1
    have hn1 : -1000000000000 ≤ x.fHours ∧ x.fHours ≤ 1000000000000 := by have := hk'.2.1; unfold inB at this; simp only [Bool.and_eq_true, decide_eq_true_eq] at this; omega
    have hn2 : -1000000000000 ≤ x.fClamps ∧ x.fClamps ≤ 1000000000000 := by have := hk'.2.2.1; unfold inB at this; simp only [Bool.and_eq_true, decide_eq_true_eq] at this; omega
    have hr1 : ∀ m ∈ [x.fHours, x.fClamps], -1000000000000 ≤ m ∧ m ≤ 1000000000000 := fun m hm => by
      simp only [List.mem_cons, List.mem_nil_iff, or_false] at hm
      rcases hm with rfl | rfl
      · exact hn1
      · exact hn2
    have hr2 : ∀ m ∈ x.fAfter, -1000000000000 ≤ m ∧ m ≤ 1000000000000 := fun m hm => by have := hq.1 m hm; omega
    have hl := hr.1
    have hzT : (ofL (textL [x.fHours, x.fClamps])).size ≤ 1280 := by rw [ofL_size]; exact textL_len hr1 (by simp)
    have hzU : (ofL (textL x.fAfter)).size ≤ 1280 := by rw [ofL_size]; exact textL_len hr2 (by omega)
    have HC : Hid (∀ W A c, Rd intE W A 2 [x.fHours, x.fClamps] → LibW W → Calls Tryd.prog 34 #[.string x.fId, .slice A 2 c] W fun e w' => e = .returned (.string (x.fId ++ ⟨#[32]⟩ ++ ofL (textL [x.fHours, x.fClamps]))) ∧ Below W.heap.size W w') := Lib.hid (fun W A c h1 h2 => i_named x.fId A 2 c _ W (by omega) h1 (by omega) hr1 h2)
    have HD : Hid (∀ W, Below w.heap.size w W → Calls Tryd.prog 35 #[.slice A n c] W fun e w' => e = .returned (.string (ofL (textL x.fAfter))) ∧ Below W.heap.size W w') := Lib.hid (fun W h1 => i_ListText A n c _ W (hr.below h1) (by omega) hr2 (hL.below h1))
    obtain ⟨T, hT⟩ : ∃ T, ofL (textL [x.fHours, x.fClamps]) = T := ⟨_, rfl⟩
    obtain ⟨U, hU⟩ : ∃ U, ofL (textL x.fAfter) = U := ⟨_, rfl⟩
    rw [hT] at hzT E HC
    rw [hU] at hzU E HD
    have hlit : ∀ (W : World) (t : TypeId), Rd intE (W.alloc (.cells #[.int .i64 x.fHours, .int .i64 x.fClamps] t)) (some ⟨W.heap.size, 0, none⟩) 2 [x.fHours, x.fClamps] := fun W t => Rd.lit1 intE rfl rfl rfl
    have HC1 : Hid (∀ (W : World) (t : TypeId) (c : Nat), LibW (W.alloc (.cells #[.int .i64 x.fHours, .int .i64 x.fClamps] t)) → Calls Tryd.prog 34 #[.string x.fId, .slice (some ⟨W.heap.size, 0, none⟩) 2 c] (W.alloc (.cells #[.int .i64 x.fHours, .int .i64 x.fClamps] t)) fun e w' => e = .returned (.string (x.fId ++ ⟨#[32]⟩ ++ T)) ∧ Below (W.alloc (.cells #[.int .i64 x.fHours, .int .i64 x.fClamps] t)).heap.size (W.alloc (.cells #[.int .i64 x.fHours, .int .i64 x.fClamps] t)) w') := Lib.hid (fun W t c h => HC.out _ _ c (hlit W t) h)
    have hlitD : ∀ (W : World) (t : TypeId), Rd intE (W.alloc (.cells #[.int .i64 x.fHours, .int .i64 x.fClamps] t)).drew (some ⟨W.heap.size, 0, none⟩) 2 [x.fHours, x.fClamps] := fun W t => (hlit W t).below ((Below.refl _ _).drew)
    have HC2 : Hid (∀ (W : World) (t : TypeId) (c : Nat), LibW (W.alloc (.cells #[.int .i64 x.fHours, .int .i64 x.fClamps] t)).drew → Calls Tryd.prog 34 #[.string x.fId, .slice (some ⟨W.heap.size, 0, none⟩) 2 c] (W.alloc (.cells #[.int .i64 x.fHours, .int .i64 x.fClamps] t)).drew fun e w' => e = .returned (.string (x.fId ++ ⟨#[32]⟩ ++ T)) ∧ Below (W.alloc (.cells #[.int .i64 x.fHours, .int .i64 x.fClamps] t)).drew.heap.size (W.alloc (.cells #[.int .i64 x.fHours, .int .i64 x.fClamps] t)).drew w') := Lib.hid (fun W t c h => HC.out _ _ c (hlitD W t) h)
    have q1 := fun W => run_string_add_sum (P := Tryd.prog) W (x.fId ++ ⟨#[32]⟩ ++ T) ⟨#[32]⟩ (by rw [ba_app_size, ba_app_size]; show _ + 1 + _ + 1 ≤ _; omega)
    have q2 := fun W => run_string_add_sum (P := Tryd.prog) W (x.fId ++ ⟨#[32]⟩ ++ T ++ ⟨#[32]⟩) U (by rw [ba_app_size, ba_app_size, ba_app_size]; show _ + 1 + _ + 1 + _ ≤ _; omega)
    have hlt : w.heap.size < w1.heap.size := by omega
    clear hk hk' hq hr1 hr2 hT hU hb hb0 hsz hl hn1 hn2 hnm
    go_wp2_with fail
    go_region_held3 (fun w' => (w'.cell? ⟨w.heap.size, 0, none⟩ = some (.string x.fId) ∧ w'.cell? ⟨w.heap.size, 1, none⟩ = some (.int .i64 x.fHours) ∧ w'.cell? ⟨w.heap.size, 2, none⟩ = some (.int .i64 x.fClamps) ∧ w'.cell? ⟨w.heap.size, 3, none⟩ = some (.slice A n c)) ∧ Below w.heap.size w w')
      (first | exact ⟨⟨hc0, hc1, hc2, hc3⟩, hbF.drew⟩
             | (go_split_ands; exact ⟨⟨cell_later hb2 (by assumption), cell_later hb2 (by assumption), cell_later hb2 (by assumption), cell_later hb2 (by assumption)⟩, Below.trans (by assumption) (hb2.mono (Below.size (by assumption)))⟩)
             | (go_split_ands; exact ⟨⟨cell_later hb5 (by assumption), cell_later hb5 (by assumption), cell_later hb5 (by assumption), cell_later hb5 (by assumption)⟩, Below.trans (by assumption) (hb5.mono (Below.size (by assumption)))⟩)
             | (go_split_ands; exact ⟨⟨cell_later ((Below.refl _ _).alloc (Nat.le_refl _) _) (by assumption), cell_later ((Below.refl _ _).alloc (Nat.le_refl _) _) (by assumption), cell_later ((Below.refl _ _).alloc (Nat.le_refl _) _) (by assumption), cell_later ((Below.refl _ _).alloc (Nat.le_refl _) _) (by assumption)⟩, Below.alloc (by assumption) (Below.size (by assumption)) _⟩))
      (first | (go_at_call 35; go_split_ands; refine (HD.out _ (by assumption)).mono ?_; rintro e w5 ⟨rfl, hb5⟩)
             | (go_at_call 34; go_split_ands; first | (with_reducible refine (HC2.out _ _ _ (hL.below (by assumption))).mono ?_; rintro e w2 ⟨rfl, hb2⟩) | (with_reducible refine (HC1.out _ _ _ (hL.below (by assumption))).mono ?_; rintro e w2 ⟨rfl, hb2⟩) | (with_reducible refine (HC.out _ _ _ ((hlitD _ _).below hb5) (hL.below (by assumption))).mono ?_; rintro e w2 ⟨rfl, hb2⟩) | (with_reducible refine (HC.out _ _ _ ((hlit _ _).below hb5) (hL.below (by assumption))).mono ?_; rintro e w2 ⟨rfl, hb2⟩)))
    rename_i hh
    obtain ⟨_, hbE⟩ := hh
    clear q1 q2
    go_wp2
    go_ret
    exact ⟨by rw [E.out]; rfl, hbE⟩
set_option maxRecDepth 100000 in
set_option maxHeartbeats 4000000 in
theorem S_ReadStep (s : ByteArray) (w : World) (hs : s.size ≤ 1048576) :
    Calls Tryd.prog 5 #[.string s] w (RetStep (stepV s) (stepOk s) w) := by
  have hR := range_new w #[.string ⟨#[]⟩, .int .i64 0, .int .i64 0, .slice none 0 0] 24
  have hfr := fun j => new_free w #[.string ⟨#[]⟩, .int .i64 0, .int .i64 0, .slice none 0 0] 24 j
  have hb0 : Below w.heap.size w (w.alloc (.cells #[.string ⟨#[]⟩, .int .i64 0, .int .i64 0, .slice none 0 0] 24)) := (Below.refl _ _).alloc (Nat.le_refl _) _
  obtain ⟨W0, hW0⟩ : ∃ W0, w.alloc (.cells #[.string ⟨#[]⟩, .int .i64 0, .int .i64 0, .slice none 0 0] 24) = W0 := ⟨_, rfl⟩
  have hsz : W0.heap.size = w.heap.size + 1 := by rw [← hW0]; simp
  rw [hW0] at hR hfr hb0
  go_enter Tryd.func5, Tryd.ntmps5
  go_wp2_with fail
  try rw [hW0]
  clear hW0
  refine (s_l01Split s 32 _ hs).mono ?_
  rintro e w1 ⟨A, n, c, hl, hn, ho, rfl, hb⟩
  have hgl : GL strE 9 W0.heap.size w1 (.slice A n c) (cutsB 32 s) := by unfold GL; rw [hl]; exact ho
  have hbF := hb0.trans (hb.mono hb0.size)
  have hsz1 := hb.size
  rw [hsz] at hsz1
  have hR1 := range_below (B := 0) hR hb
  have hr0 := hR1 0 _ rfl
  have hf0 := free_later (hfr 0) (by simp; omega) hb
  have hr1 := hR1 1 _ rfl
  have hf1 := free_later (hfr 1) (by simp; omega) hb
  have hr2 := hR1 2 _ rfl
  have hf2 := free_later (hfr 2) (by simp; omega) hb
  have hr3 := hR1 3 _ rfl
  have hf3 := free_later (hfr 3) (by simp; omega) hb
  simp only [Nat.zero_add] at hr0 hr1 hr2 hr3
  clear ho hR hfr hR1
  by_cases h3 : n = 3
  · subst h3
    have hrd := hgl.rd
    obtain ⟨b, off, p0, hAe, hp0, hcs0⟩ := hrd.get (k := 0) (by omega)
    subst hAe
    obtain ⟨b1, off1, p1, hAe1, hp1, hcs1⟩ := hrd.get (k := 1) (by omega)
    cases hAe1
    obtain ⟨b2, off2, p2, hAe2, hp2, hcs2⟩ := hrd.get (k := 2) (by omega)
    cases hAe2
    have hc0 := hcs0 0 (.string p0) rfl
    have hc1 := hcs1 0 (.string p1) rfl
    have hc2 := hcs2 0 (.string p2) rfl
    simp only [strE, Nat.mul_one, Nat.zero_mul, Nat.add_zero] at hc0 hc1 hc2
    have hbb : b < w1.heap.size := (hgl.own.2.lt b rfl).2
    have hlst : cutsB 32 s = [p0, p1, p2] := by
      match hh : cutsB 32 s, hl with
      | [x, y, z], _ =>
        rw [hh] at hp0 hp1 hp2
        simp at hp0 hp1 hp2
        rw [hp0, hp1, hp2]
    have HC : Hid (cutsL 32 s.data.toList = [p0.data.toList, p1.data.toList, p2.data.toList]) := Lib.hid (by
      have h1 := congrArg (List.map (·.data.toList)) hlst
      unfold cutsB at h1
      rw [List.map_map, show ((fun b : ByteArray => b.data.toList) ∘ ofL) = id by funext l; exact ofL_data l, List.map_id] at h1
      exact h1)
    have hz0 := piece_size hp0
    have hz1 := piece_size hp1
    have hz2 := piece_size hp2
    clear hcs0 hcs1 hcs2 hp0 hp1 hp2 hlst hl hrd hgl
    go_wp2_with fail
    refine (s_ReadList p1 _ (by omega)).mono ?_
    rintro e w2 (⟨hno, A2, n2, c2, rfl, hb2⟩ | ⟨ms, A2, c2, hsome, rfl, hg2, hb2⟩)
    · have E := Lib.hid (step_none (stepO_of (oN_bad1 HC.out fun ns h => by rw [hno] at h; cases h)))
      clear hno
      replace hr0 := cell_later hb2 hr0
      replace hf0 := free_later hf0 (by simp; omega) hb2
      replace hr1 := cell_later hb2 hr1
      replace hf1 := free_later hf1 (by simp; omega) hb2
      replace hr2 := cell_later hb2 hr2
      replace hf2 := free_later hf2 (by simp; omega) hb2
      replace hr3 := cell_later hb2 hr3
      replace hf3 := free_later hf3 (by simp; omega) hb2
      replace hc0 := cell_later hb2 hc0
      replace hc1 := cell_later hb2 hc1
      replace hc2 := cell_later hb2 hc2
      replace hbF := hbF.trans (hb2.mono hbF.size)
      have hy2 := hb2.size
      go_wp2_with fail
      refine (s_ReadList p2 _ (by omega)).mono ?_
      rintro e w3 (⟨hno3, A3, n3, c3, rfl, hb3⟩ | ⟨ns, A3, c3, hsome3, rfl, hg3, hb3⟩)
      · clear hno3
        replace hr0 := cell_later hb3 hr0
        replace hf0 := free_later hf0 (by simp; omega) hb3
        replace hr1 := cell_later hb3 hr1
        replace hf1 := free_later hf1 (by simp; omega) hb3
        replace hr2 := cell_later hb3 hr2
        replace hf2 := free_later hf2 (by simp; omega) hb3
        replace hr3 := cell_later hb3 hr3
        replace hf3 := free_later hf3 (by simp; omega) hb3
        replace hbF := hbF.trans (hb3.mono hbF.size)
        have HF := set_cells (w := w3) (g := w.heap.size) [.string ⟨#[]⟩, .int .i64 0, .int .i64 0, .slice none 0 0] 0 (fun j hj => by
          match j, hj with
          | 0, _ => exact ⟨_, hr0⟩
          | 1, _ => exact ⟨_, hr1⟩
          | 2, _ => exact ⟨_, hr2⟩
          | 3, _ => exact ⟨_, hr3⟩)
        have hbW := below_setCells (Nat.le_refl w.heap.size) [.string ⟨#[]⟩, .int .i64 0, .int .i64 0, .slice none 0 0] 0 hbF
        go_wp2
        change bodyPost _ _ _ _ _ (w3.setCells w.heap.size 0 [.string ⟨#[]⟩, .int .i64 0, .int .i64 0, .slice none 0 0])
        generalize w3.setCells w.heap.size 0 [.string ⟨#[]⟩, .int .i64 0, .int .i64 0, .slice none 0 0] = Wf at *
        have qf0 := HF 0 _ rfl
        have qf1 := HF 1 _ rfl
        have qf2 := HF 2 _ rfl
        have qf3 := HF 3 _ rfl
        simp only [Nat.zero_add] at qf0 qf1 qf2 qf3
        exact bodyPost_ret (v := .tuple #[.agg #[.string ⟨#[]⟩, .int .i64 0, .int .i64 0, .slice none 0 0], .bool false]) (by simp [results, Tryd.results5, go_sem, qf0, qf1, qf2, qf3]) rfl ⟨⟨⟨#[]⟩, 0, 0, []⟩, Lib.hid E.out.1.symm, none, 0, 0, rfl, by omega, ⟨by simp, .inl ⟨rfl, rfl⟩⟩, by rw [E.out.2], hbW⟩
      · clear hsome3 hg3
        replace hr0 := cell_later hb3 hr0
        replace hf0 := free_later hf0 (by simp; omega) hb3
        replace hr1 := cell_later hb3 hr1
        replace hf1 := free_later hf1 (by simp; omega) hb3
        replace hr2 := cell_later hb3 hr2
        replace hf2 := free_later hf2 (by simp; omega) hb3
        replace hr3 := cell_later hb3 hr3
        replace hf3 := free_later hf3 (by simp; omega) hb3
        replace hbF := hbF.trans (hb3.mono hbF.size)
        have HF := set_cells (w := w3) (g := w.heap.size) [.string ⟨#[]⟩, .int .i64 0, .int .i64 0, .slice none 0 0] 0 (fun j hj => by
          match j, hj with
          | 0, _ => exact ⟨_, hr0⟩
          | 1, _ => exact ⟨_, hr1⟩
          | 2, _ => exact ⟨_, hr2⟩
          | 3, _ => exact ⟨_, hr3⟩)
        have hbW := below_setCells (Nat.le_refl w.heap.size) [.string ⟨#[]⟩, .int .i64 0, .int .i64 0, .slice none 0 0] 0 hbF
        go_wp2
        change bodyPost _ _ _ _ _ (w3.setCells w.heap.size 0 [.string ⟨#[]⟩, .int .i64 0, .int .i64 0, .slice none 0 0])
        generalize w3.setCells w.heap.size 0 [.string ⟨#[]⟩, .int .i64 0, .int .i64 0, .slice none 0 0] = Wf at *
        have qf0 := HF 0 _ rfl
        have qf1 := HF 1 _ rfl
        have qf2 := HF 2 _ rfl
        have qf3 := HF 3 _ rfl
        simp only [Nat.zero_add] at qf0 qf1 qf2 qf3
        exact bodyPost_ret (v := .tuple #[.agg #[.string ⟨#[]⟩, .int .i64 0, .int .i64 0, .slice none 0 0], .bool false]) (by simp [results, Tryd.results5, go_sem, qf0, qf1, qf2, qf3]) rfl ⟨⟨⟨#[]⟩, 0, 0, []⟩, Lib.hid E.out.1.symm, none, 0, 0, rfl, by omega, ⟨by simp, .inl ⟨rfl, rfl⟩⟩, by rw [E.out.2], hbW⟩
    · have hy2 := hb2.size
      replace hr0 := cell_later hb2 hr0
      replace hf0 := free_later hf0 (by simp; omega) hb2
      replace hr1 := cell_later hb2 hr1
      replace hf1 := free_later hf1 (by simp; omega) hb2
      replace hr2 := cell_later hb2 hr2
      replace hf2 := free_later hf2 (by simp; omega) hb2
      replace hr3 := cell_later hb2 hr3
      replace hf3 := free_later hf3 (by simp; omega) hb2
      replace hc0 := cell_later hb2 hc0
      replace hc1 := cell_later hb2 hc1
      replace hc2 := cell_later hb2 hc2
      replace hbF := hbF.trans (hb2.mono hbF.size)
      go_wp2_with fail
      refine (s_ReadList p2 _ (by omega)).mono ?_
      rintro e w3 (⟨hno3, A3, n3, c3, rfl, hb3⟩ | ⟨ns, A3, c3, hsome3, rfl, hg3, hb3⟩)
      · have E := Lib.hid (step_none (stepO_of (oN_bad2 HC.out hno3)))
        clear hno3 hsome hg2
        replace hr0 := cell_later hb3 hr0
        replace hf0 := free_later hf0 (by simp; omega) hb3
        replace hr1 := cell_later hb3 hr1
        replace hf1 := free_later hf1 (by simp; omega) hb3
        replace hr2 := cell_later hb3 hr2
        replace hf2 := free_later hf2 (by simp; omega) hb3
        replace hr3 := cell_later hb3 hr3
        replace hf3 := free_later hf3 (by simp; omega) hb3
        replace hbF := hbF.trans (hb3.mono hbF.size)
        have HF := set_cells (w := w3) (g := w.heap.size) [.string ⟨#[]⟩, .int .i64 0, .int .i64 0, .slice none 0 0] 0 (fun j hj => by
          match j, hj with
          | 0, _ => exact ⟨_, hr0⟩
          | 1, _ => exact ⟨_, hr1⟩
          | 2, _ => exact ⟨_, hr2⟩
          | 3, _ => exact ⟨_, hr3⟩)
        have hbW := below_setCells (Nat.le_refl w.heap.size) [.string ⟨#[]⟩, .int .i64 0, .int .i64 0, .slice none 0 0] 0 hbF
        go_wp2
        change bodyPost _ _ _ _ _ (w3.setCells w.heap.size 0 [.string ⟨#[]⟩, .int .i64 0, .int .i64 0, .slice none 0 0])
        generalize w3.setCells w.heap.size 0 [.string ⟨#[]⟩, .int .i64 0, .int .i64 0, .slice none 0 0] = Wf at *
        have qf0 := HF 0 _ rfl
        have qf1 := HF 1 _ rfl
        have qf2 := HF 2 _ rfl
        have qf3 := HF 3 _ rfl
        simp only [Nat.zero_add] at qf0 qf1 qf2 qf3
        exact bodyPost_ret (v := .tuple #[.agg #[.string ⟨#[]⟩, .int .i64 0, .int .i64 0, .slice none 0 0], .bool false]) (by simp [results, Tryd.results5, go_sem, qf0, qf1, qf2, qf3]) rfl ⟨⟨⟨#[]⟩, 0, 0, []⟩, Lib.hid E.out.1.symm, none, 0, 0, rfl, by omega, ⟨by simp, .inl ⟨rfl, rfl⟩⟩, by rw [E.out.2], hbW⟩
      · have hy3 := hb3.size
        replace hr0 := cell_later hb3 hr0
        replace hf0 := free_later hf0 (by simp; omega) hb3
        replace hr1 := cell_later hb3 hr1
        replace hf1 := free_later hf1 (by simp; omega) hb3
        replace hr2 := cell_later hb3 hr2
        replace hf2 := free_later hf2 (by simp; omega) hb3
        replace hr3 := cell_later hb3 hr3
        replace hf3 := free_later hf3 (by simp; omega) hb3
        replace hc0 := cell_later hb3 hc0
        replace hc1 := cell_later hb3 hc1
        replace hc2 := cell_later hb3 hc2
        replace hbF := hbF.trans (hb3.mono hbF.size)
        by_cases hkn : ms.length = 2
        rotate_left
        · have E := Lib.hid (step_none (stepO_of (oN_bad1 HC.out fun ns' h => by rw [hsome] at h; cases h; exact hkn)))
          have hne : ((ms.length : Int) == 2) = false := by rw [beq_eq_false_iff_ne]; omega
          clear hsome hsome3 hkn hg2 hg3
          have HF := set_cells (w := w3) (g := w.heap.size) [.string ⟨#[]⟩, .int .i64 0, .int .i64 0, .slice none 0 0] 0 (fun j hj => by
            match j, hj with
            | 0, _ => exact ⟨_, hr0⟩
            | 1, _ => exact ⟨_, hr1⟩
            | 2, _ => exact ⟨_, hr2⟩
            | 3, _ => exact ⟨_, hr3⟩)
          have hbW := below_setCells (Nat.le_refl w.heap.size) [.string ⟨#[]⟩, .int .i64 0, .int .i64 0, .slice none 0 0] 0 hbF
          go_wp2
          change bodyPost _ _ _ _ _ (w3.setCells w.heap.size 0 [.string ⟨#[]⟩, .int .i64 0, .int .i64 0, .slice none 0 0])
          generalize w3.setCells w.heap.size 0 [.string ⟨#[]⟩, .int .i64 0, .int .i64 0, .slice none 0 0] = Wf at *
          have qf0 := HF 0 _ rfl
          have qf1 := HF 1 _ rfl
          have qf2 := HF 2 _ rfl
          have qf3 := HF 3 _ rfl
          simp only [Nat.zero_add] at qf0 qf1 qf2 qf3
          exact bodyPost_ret (v := .tuple #[.agg #[.string ⟨#[]⟩, .int .i64 0, .int .i64 0, .slice none 0 0], .bool false]) (by simp [results, Tryd.results5, go_sem, qf0, qf1, qf2, qf3]) rfl ⟨⟨⟨#[]⟩, 0, 0, []⟩, Lib.hid E.out.1.symm, none, 0, 0, rfl, by omega, ⟨by simp, .inl ⟨rfl, rfl⟩⟩, by rw [E.out.2], hbW⟩
        · obtain ⟨n0, n1, hns⟩ : ∃ n0 n1, ms = [n0, n1] := by
            match ms, hkn with
            | [n0, n1], _ => exact ⟨n0, n1, rfl⟩
          subst hns
          have HO := Lib.hid (oN_cuts (ok := okStep4) HC.out hsome hsome3)
          have hm := (listL_range hsome3).1
          obtain ⟨g, rfl, hg1, hgg, hcs⟩ := (hg2.below hb3).ints (by simp)
          have hn0 := hcs 0 _ rfl
          have hn1 := hcs 1 _ rfl
          have hbb3 : b < w3.heap.size := by omega
          have hka : ∀ o, (w3.alloc o).drew.cell? ⟨b, off, none⟩ = some (.string p0) := fun o => (World.cell?_alloc_lt w3 o _ hbb3).trans hc0
          have hk0 : ∀ o, (w3.alloc o).drew.cell? ⟨g, 0, none⟩ = some (.int .i64 n0) := fun o => (World.cell?_alloc_lt w3 o _ hgg).trans hn0
          have hk1 : ∀ o, (w3.alloc o).drew.cell? ⟨g, 1, none⟩ = some (.int .i64 n1) := fun o => (World.cell?_alloc_lt w3 o _ hgg).trans hn1
          clear hcs hg2 hsome hsome3 hkn
          go_wp2_with fail
          go_region_held3 (fun w' => w'.cell? ⟨b, off, none⟩ = some (.string p0) ∧ w'.cell? ⟨g, 0, none⟩ = some (.int .i64 n0) ∧ w'.cell? ⟨g, 1, none⟩ = some (.int .i64 n1)) (first | exact ⟨hc0, hn0, hn1⟩ | exact ⟨hka _, hk0 _, hk1 _⟩) (first | fail)
          have hbx : Below w3.heap.size w3 (w3.alloc (.cells #[.string p0, .int .i64 n0, .int .i64 n1, .slice A3 ns.length c3] 24)).drew := ((Below.refl _ _).alloc (Nat.le_refl _) _).drew
          have hxR : (w3.alloc (.cells #[.string p0, .int .i64 n0, .int .i64 n1, .slice A3 ns.length c3] 24)).drew.rangeAt w3.heap.size 0 [.string p0, .int .i64 n0, .int .i64 n1, .slice A3 ns.length c3] := range_new w3 #[.string p0, .int .i64 n0, .int .i64 n1, .slice A3 ns.length c3] 24
          obtain ⟨W2, hW2⟩ : ∃ W, (w3.alloc (.cells #[.string p0, .int .i64 n0, .int .i64 n1, .slice A3 ns.length c3] 24)).drew = W := ⟨_, rfl⟩
          rw [hW2] at hbx hxR
          replace hr0 := cell_later hbx hr0
          replace hf0 := free_later hf0 (by simp; omega) hbx
          replace hr1 := cell_later hbx hr1
          replace hf1 := free_later hf1 (by simp; omega) hbx
          replace hr2 := cell_later hbx hr2
          replace hf2 := free_later hf2 (by simp; omega) hbx
          replace hr3 := cell_later hbx hr3
          replace hf3 := free_later hf3 (by simp; omega) hbx
          replace hbF := hbF.trans (hbx.mono hbF.size)
          replace hg3 := hg3.below hbx
          have hzz := hbx.size
          have hy0 := hxR 0 _ rfl
          have hy1 := hxR 1 _ rfl
          have hy2 := hxR 2 _ rfl
          have hy3 := hxR 3 _ rfl
          simp only [Nat.zero_add] at hy0 hy1 hy2 hy3
          clear hc0 hc1 hc2 hka hn0 hn1 hk0 hk1 hbx
          rename_i hheld; clear hheld
          go_wp2_with fail
          try rw [hW2]
          clear hW2
          refine (s_l17One _ _ ⟨p0, n0, n1, ns⟩ A3 ns.length c3 _ (by show p0.size ≤ maxLen; unfold maxLen; omega) hxR hg3.rd (by obtain ⟨F, _, hO⟩ := OL.of_own hg3.own.2 hg3.own.1; exact hO.max)).mono ?_
          rintro e w4 ⟨rfl, hb4⟩
          replace hr0 := cell_later hb4 hr0
          replace hf0 := free_later hf0 (by simp; omega) hb4
          replace hr1 := cell_later hb4 hr1
          replace hf1 := free_later hf1 (by simp; omega) hb4
          replace hr2 := cell_later hb4 hr2
          replace hf2 := free_later hf2 (by simp; omega) hb4
          replace hr3 := cell_later hb4 hr3
          replace hf3 := free_later hf3 (by simp; omega) hb4
          replace hy0 := cell_later hb4 hy0
          replace hy1 := cell_later hb4 hy1
          replace hy2 := cell_later hb4 hy2
          replace hy3 := cell_later hb4 hy3
          replace hbF := hbF.trans (hb4.mono hbF.size)
          replace hg3 := hg3.below hb4
          rcases hq : okStep ⟨p0, n0, n1, ns⟩ with _ | _
          · have E := Lib.hid (step_none (stepO_of (by rw [HO.out, ofL_self, if_neg (by unfold okStep at hq; rw [hq]; simp)])))
            clear hq hg3
            have HF := set_cells (w := w4) (g := w.heap.size) [.string ⟨#[]⟩, .int .i64 0, .int .i64 0, .slice none 0 0] 0 (fun j hj => by
              match j, hj with
              | 0, _ => exact ⟨_, hr0⟩
              | 1, _ => exact ⟨_, hr1⟩
              | 2, _ => exact ⟨_, hr2⟩
              | 3, _ => exact ⟨_, hr3⟩)
            have hbW := below_setCells (Nat.le_refl w.heap.size) [.string ⟨#[]⟩, .int .i64 0, .int .i64 0, .slice none 0 0] 0 hbF
            go_wp2
            change bodyPost _ _ _ _ _ (w4.setCells w.heap.size 0 [.string ⟨#[]⟩, .int .i64 0, .int .i64 0, .slice none 0 0])
            generalize w4.setCells w.heap.size 0 [.string ⟨#[]⟩, .int .i64 0, .int .i64 0, .slice none 0 0] = Wf at *
            have qf0 := HF 0 _ rfl
            have qf1 := HF 1 _ rfl
            have qf2 := HF 2 _ rfl
            have qf3 := HF 3 _ rfl
            simp only [Nat.zero_add] at qf0 qf1 qf2 qf3
            exact bodyPost_ret (v := .tuple #[.agg #[.string ⟨#[]⟩, .int .i64 0, .int .i64 0, .slice none 0 0], .bool false]) (by simp [results, Tryd.results5, go_sem, qf0, qf1, qf2, qf3]) rfl ⟨⟨⟨#[]⟩, 0, 0, []⟩, Lib.hid E.out.1.symm, none, 0, 0, rfl, by omega, ⟨by simp, .inl ⟨rfl, rfl⟩⟩, by rw [E.out.2], hbW⟩
          · have E := Lib.hid (step_some (stepO_is (by rw [HO.out, ofL_self]; exact if_pos hq)))
            have h12 := okStep_len hq
            simp only at h12
            clear hq
            have HF := set_cells (w := w4) (g := w.heap.size) [.string p0, .int .i64 n0, .int .i64 n1, .slice A3 ns.length c3] 0 (fun j hj => by
              match j, hj with
              | 0, _ => exact ⟨_, hr0⟩
              | 1, _ => exact ⟨_, hr1⟩
              | 2, _ => exact ⟨_, hr2⟩
              | 3, _ => exact ⟨_, hr3⟩)
            have hbW := below_setCells (Nat.le_refl w.heap.size) [.string p0, .int .i64 n0, .int .i64 n1, .slice A3 ns.length c3] 0 hbF
            have hgW := (hg3.touch (Touch.setCells (F := fun k => k = w.heap.size) (g := w.heap.size) rfl [.string p0, .int .i64 n0, .int .i64 n1, .slice A3 ns.length c3] 0) (fun k hk e => by have := (hg3.lt k hk).1; omega)).mono (base' := w.heap.size) (by omega)
            have hoW := hgW.own.2
            clear hgW hg3
            go_wp2
            change bodyPost _ _ _ _ _ (w4.setCells w.heap.size 0 [.string p0, .int .i64 n0, .int .i64 n1, .slice A3 ns.length c3])
            generalize w4.setCells w.heap.size 0 [.string p0, .int .i64 n0, .int .i64 n1, .slice A3 ns.length c3] = Wf at *
            have qf0 := HF 0 _ rfl
            have qf1 := HF 1 _ rfl
            have qf2 := HF 2 _ rfl
            have qf3 := HF 3 _ rfl
            simp only [Nat.zero_add] at qf0 qf1 qf2 qf3
            exact bodyPost_ret (v := .tuple #[.agg #[.string p0, .int .i64 n0, .int .i64 n1, .slice A3 ns.length c3], .bool true]) (by simp [results, Tryd.results5, go_sem, qf0, qf1, qf2, qf3]) rfl ⟨⟨p0, n0, n1, ns⟩, Lib.hid E.out.1.symm, A3, ns.length, c3, rfl, by omega, hoW, by rw [E.out.2], hbW⟩
  · have E := Lib.hid (step_none (stepO_of (oN_len (s := s) (by have hcl : (cutsB 32 s).length = (cutsL 32 s.data.toList).length := (by unfold cutsB; simp); omega))))
    have hne : ((n : Int) == 3) = false := by rw [beq_eq_false_iff_ne]; omega
    clear hl hgl h3
    have HF := set_cells (w := w1) (g := w.heap.size) [.string ⟨#[]⟩, .int .i64 0, .int .i64 0, .slice none 0 0] 0 (fun j hj => by
      match j, hj with
      | 0, _ => exact ⟨_, hr0⟩
      | 1, _ => exact ⟨_, hr1⟩
      | 2, _ => exact ⟨_, hr2⟩
      | 3, _ => exact ⟨_, hr3⟩)
    have hbW := below_setCells (Nat.le_refl w.heap.size) [.string ⟨#[]⟩, .int .i64 0, .int .i64 0, .slice none 0 0] 0 hbF
    go_wp2
    change bodyPost _ _ _ _ _ (w1.setCells w.heap.size 0 [.string ⟨#[]⟩, .int .i64 0, .int .i64 0, .slice none 0 0])
    generalize w1.setCells w.heap.size 0 [.string ⟨#[]⟩, .int .i64 0, .int .i64 0, .slice none 0 0] = Wf at *
    have qf0 := HF 0 _ rfl
    have qf1 := HF 1 _ rfl
    have qf2 := HF 2 _ rfl
    have qf3 := HF 3 _ rfl
    simp only [Nat.zero_add] at qf0 qf1 qf2 qf3
    exact bodyPost_ret (v := .tuple #[.agg #[.string ⟨#[]⟩, .int .i64 0, .int .i64 0, .slice none 0 0], .bool false]) (by simp [results, Tryd.results5, go_sem, qf0, qf1, qf2, qf3]) rfl ⟨⟨⟨#[]⟩, 0, 0, []⟩, Lib.hid E.out.1.symm, none, 0, 0, rfl, by omega, ⟨by simp, .inl ⟨rfl, rfl⟩⟩, by rw [E.out.2], hbW⟩

set_option maxRecDepth 100000 in
set_option maxHeartbeats 4000000 in
theorem I_ReadStep (s : ByteArray) (w : World) (hs : s.size ≤ 1048576) (hL : LibW w) :
    Calls Tryd.prog 6 #[.string s] w (RetStep (stepV s) (stepOk s) w) := by
  have hR := range_new w #[.string ⟨#[]⟩, .int .i64 0, .int .i64 0, .slice none 0 0] 24
  have hfr := fun j => new_free w #[.string ⟨#[]⟩, .int .i64 0, .int .i64 0, .slice none 0 0] 24 j
  have hb0 : Below w.heap.size w (w.alloc (.cells #[.string ⟨#[]⟩, .int .i64 0, .int .i64 0, .slice none 0 0] 24)) := (Below.refl _ _).alloc (Nat.le_refl _) _
  obtain ⟨W0, hW0⟩ : ∃ W0, w.alloc (.cells #[.string ⟨#[]⟩, .int .i64 0, .int .i64 0, .slice none 0 0] 24) = W0 := ⟨_, rfl⟩
  have hsz : W0.heap.size = w.heap.size + 1 := by rw [← hW0]; simp
  rw [hW0] at hR hfr hb0
  go_enter Tryd.func6, Tryd.ntmps6
  go_wp2_with fail
  try rw [hW0]
  clear hW0
  refine (i_SplitWords s _ hs (hL.below hb0)).mono ?_
  rintro e w1 ⟨A, n, c, hl, hn, ho, rfl, hb⟩
  have hgl : GL strE 9 W0.heap.size w1 (.slice A n c) (wordsB s) := by unfold GL; rw [hl]; exact ho
  have hbF := hb0.trans (hb.mono hb0.size)
  have hsz1 := hb.size
  rw [hsz] at hsz1
  have hR1 := range_below (B := 0) hR hb
  have hr0 := hR1 0 _ rfl
  have hf0 := free_later (hfr 0) (by simp; omega) hb
  have hr1 := hR1 1 _ rfl
  have hf1 := free_later (hfr 1) (by simp; omega) hb
  have hr2 := hR1 2 _ rfl
  have hf2 := free_later (hfr 2) (by simp; omega) hb
  have hr3 := hR1 3 _ rfl
  have hf3 := free_later (hfr 3) (by simp; omega) hb
  simp only [Nat.zero_add] at hr0 hr1 hr2 hr3
  clear ho hR hfr hR1
  by_cases h3 : n = 3
  · subst h3
    have hrd := hgl.rd
    obtain ⟨b, off, p0, hAe, hp0, hcs0⟩ := hrd.get (k := 0) (by omega)
    subst hAe
    obtain ⟨b1, off1, p1, hAe1, hp1, hcs1⟩ := hrd.get (k := 1) (by omega)
    cases hAe1
    obtain ⟨b2, off2, p2, hAe2, hp2, hcs2⟩ := hrd.get (k := 2) (by omega)
    cases hAe2
    have hc0 := hcs0 0 (.string p0) rfl
    have hc1 := hcs1 0 (.string p1) rfl
    have hc2 := hcs2 0 (.string p2) rfl
    simp only [strE, Nat.mul_one, Nat.zero_mul, Nat.add_zero] at hc0 hc1 hc2
    have hbb : b < w1.heap.size := (hgl.own.2.lt b rfl).2
    have hlst : wordsB s = [p0, p1, p2] := by
      match hh : wordsB s, hl with
      | [x, y, z], _ =>
        rw [hh] at hp0 hp1 hp2
        simp at hp0 hp1 hp2
        rw [hp0, hp1, hp2]
    have HC := Lib.hid hlst
    have hz0 := nl_word_size hp0
    have hz1 := nl_word_size hp1
    have hz2 := nl_word_size hp2
    clear hcs0 hcs1 hcs2 hp0 hp1 hp2 hlst hl hrd hgl
    go_wp2_with fail
    refine (i_ReadList p1 _ (by omega) (hL.below hbF)).mono ?_
    rintro e w2 (⟨hno, A2, n2, c2, rfl, hb2⟩ | ⟨ms, A2, c2, hsome, rfl, hg2, hb2⟩)
    · have E := Lib.hid (step_none (stepO_of (oN_wbad1 okStep_name HC.out fun ns h => by rw [hno] at h; cases h)))
      clear hno
      replace hr0 := cell_later hb2 hr0
      replace hf0 := free_later hf0 (by simp; omega) hb2
      replace hr1 := cell_later hb2 hr1
      replace hf1 := free_later hf1 (by simp; omega) hb2
      replace hr2 := cell_later hb2 hr2
      replace hf2 := free_later hf2 (by simp; omega) hb2
      replace hr3 := cell_later hb2 hr3
      replace hf3 := free_later hf3 (by simp; omega) hb2
      replace hc0 := cell_later hb2 hc0
      replace hc1 := cell_later hb2 hc1
      replace hc2 := cell_later hb2 hc2
      replace hbF := hbF.trans (hb2.mono hbF.size)
      have hy2 := hb2.size
      go_wp2_with fail
      refine (i_ReadList p2 _ (by omega) (hL.below hbF)).mono ?_
      rintro e w3 (⟨hno3, A3, n3, c3, rfl, hb3⟩ | ⟨ns, A3, c3, hsome3, rfl, hg3, hb3⟩)
      · clear hno3
        replace hr0 := cell_later hb3 hr0
        replace hf0 := free_later hf0 (by simp; omega) hb3
        replace hr1 := cell_later hb3 hr1
        replace hf1 := free_later hf1 (by simp; omega) hb3
        replace hr2 := cell_later hb3 hr2
        replace hf2 := free_later hf2 (by simp; omega) hb3
        replace hr3 := cell_later hb3 hr3
        replace hf3 := free_later hf3 (by simp; omega) hb3
        replace hbF := hbF.trans (hb3.mono hbF.size)
        have HF := set_cells (w := w3) (g := w.heap.size) [.string ⟨#[]⟩, .int .i64 0, .int .i64 0, .slice none 0 0] 0 (fun j hj => by
          match j, hj with
          | 0, _ => exact ⟨_, hr0⟩
          | 1, _ => exact ⟨_, hr1⟩
          | 2, _ => exact ⟨_, hr2⟩
          | 3, _ => exact ⟨_, hr3⟩)
        have hbW := below_setCells (Nat.le_refl w.heap.size) [.string ⟨#[]⟩, .int .i64 0, .int .i64 0, .slice none 0 0] 0 hbF
        go_wp2
        change bodyPost _ _ _ _ _ (w3.setCells w.heap.size 0 [.string ⟨#[]⟩, .int .i64 0, .int .i64 0, .slice none 0 0])
        generalize w3.setCells w.heap.size 0 [.string ⟨#[]⟩, .int .i64 0, .int .i64 0, .slice none 0 0] = Wf at *
        have qf0 := HF 0 _ rfl
        have qf1 := HF 1 _ rfl
        have qf2 := HF 2 _ rfl
        have qf3 := HF 3 _ rfl
        simp only [Nat.zero_add] at qf0 qf1 qf2 qf3
        exact bodyPost_ret (v := .tuple #[.agg #[.string ⟨#[]⟩, .int .i64 0, .int .i64 0, .slice none 0 0], .bool false]) (by simp [results, Tryd.results6, go_sem, qf0, qf1, qf2, qf3]) rfl ⟨⟨⟨#[]⟩, 0, 0, []⟩, Lib.hid E.out.1.symm, none, 0, 0, rfl, by omega, ⟨by simp, .inl ⟨rfl, rfl⟩⟩, by rw [E.out.2], hbW⟩
      · clear hsome3 hg3
        replace hr0 := cell_later hb3 hr0
        replace hf0 := free_later hf0 (by simp; omega) hb3
        replace hr1 := cell_later hb3 hr1
        replace hf1 := free_later hf1 (by simp; omega) hb3
        replace hr2 := cell_later hb3 hr2
        replace hf2 := free_later hf2 (by simp; omega) hb3
        replace hr3 := cell_later hb3 hr3
        replace hf3 := free_later hf3 (by simp; omega) hb3
        replace hbF := hbF.trans (hb3.mono hbF.size)
        have HF := set_cells (w := w3) (g := w.heap.size) [.string ⟨#[]⟩, .int .i64 0, .int .i64 0, .slice none 0 0] 0 (fun j hj => by
          match j, hj with
          | 0, _ => exact ⟨_, hr0⟩
          | 1, _ => exact ⟨_, hr1⟩
          | 2, _ => exact ⟨_, hr2⟩
          | 3, _ => exact ⟨_, hr3⟩)
        have hbW := below_setCells (Nat.le_refl w.heap.size) [.string ⟨#[]⟩, .int .i64 0, .int .i64 0, .slice none 0 0] 0 hbF
        go_wp2
        change bodyPost _ _ _ _ _ (w3.setCells w.heap.size 0 [.string ⟨#[]⟩, .int .i64 0, .int .i64 0, .slice none 0 0])
        generalize w3.setCells w.heap.size 0 [.string ⟨#[]⟩, .int .i64 0, .int .i64 0, .slice none 0 0] = Wf at *
        have qf0 := HF 0 _ rfl
        have qf1 := HF 1 _ rfl
        have qf2 := HF 2 _ rfl
        have qf3 := HF 3 _ rfl
        simp only [Nat.zero_add] at qf0 qf1 qf2 qf3
        exact bodyPost_ret (v := .tuple #[.agg #[.string ⟨#[]⟩, .int .i64 0, .int .i64 0, .slice none 0 0], .bool false]) (by simp [results, Tryd.results6, go_sem, qf0, qf1, qf2, qf3]) rfl ⟨⟨⟨#[]⟩, 0, 0, []⟩, Lib.hid E.out.1.symm, none, 0, 0, rfl, by omega, ⟨by simp, .inl ⟨rfl, rfl⟩⟩, by rw [E.out.2], hbW⟩
    · have hy2 := hb2.size
      replace hr0 := cell_later hb2 hr0
      replace hf0 := free_later hf0 (by simp; omega) hb2
      replace hr1 := cell_later hb2 hr1
      replace hf1 := free_later hf1 (by simp; omega) hb2
      replace hr2 := cell_later hb2 hr2
      replace hf2 := free_later hf2 (by simp; omega) hb2
      replace hr3 := cell_later hb2 hr3
      replace hf3 := free_later hf3 (by simp; omega) hb2
      replace hc0 := cell_later hb2 hc0
      replace hc1 := cell_later hb2 hc1
      replace hc2 := cell_later hb2 hc2
      replace hbF := hbF.trans (hb2.mono hbF.size)
      go_wp2_with fail
      refine (i_ReadList p2 _ (by omega) (hL.below hbF)).mono ?_
      rintro e w3 (⟨hno3, A3, n3, c3, rfl, hb3⟩ | ⟨ns, A3, c3, hsome3, rfl, hg3, hb3⟩)
      · have E := Lib.hid (step_none (stepO_of (oN_wbad2 okStep_name HC.out hno3)))
        clear hno3 hsome hg2
        replace hr0 := cell_later hb3 hr0
        replace hf0 := free_later hf0 (by simp; omega) hb3
        replace hr1 := cell_later hb3 hr1
        replace hf1 := free_later hf1 (by simp; omega) hb3
        replace hr2 := cell_later hb3 hr2
        replace hf2 := free_later hf2 (by simp; omega) hb3
        replace hr3 := cell_later hb3 hr3
        replace hf3 := free_later hf3 (by simp; omega) hb3
        replace hbF := hbF.trans (hb3.mono hbF.size)
        have HF := set_cells (w := w3) (g := w.heap.size) [.string ⟨#[]⟩, .int .i64 0, .int .i64 0, .slice none 0 0] 0 (fun j hj => by
          match j, hj with
          | 0, _ => exact ⟨_, hr0⟩
          | 1, _ => exact ⟨_, hr1⟩
          | 2, _ => exact ⟨_, hr2⟩
          | 3, _ => exact ⟨_, hr3⟩)
        have hbW := below_setCells (Nat.le_refl w.heap.size) [.string ⟨#[]⟩, .int .i64 0, .int .i64 0, .slice none 0 0] 0 hbF
        go_wp2
        change bodyPost _ _ _ _ _ (w3.setCells w.heap.size 0 [.string ⟨#[]⟩, .int .i64 0, .int .i64 0, .slice none 0 0])
        generalize w3.setCells w.heap.size 0 [.string ⟨#[]⟩, .int .i64 0, .int .i64 0, .slice none 0 0] = Wf at *
        have qf0 := HF 0 _ rfl
        have qf1 := HF 1 _ rfl
        have qf2 := HF 2 _ rfl
        have qf3 := HF 3 _ rfl
        simp only [Nat.zero_add] at qf0 qf1 qf2 qf3
        exact bodyPost_ret (v := .tuple #[.agg #[.string ⟨#[]⟩, .int .i64 0, .int .i64 0, .slice none 0 0], .bool false]) (by simp [results, Tryd.results6, go_sem, qf0, qf1, qf2, qf3]) rfl ⟨⟨⟨#[]⟩, 0, 0, []⟩, Lib.hid E.out.1.symm, none, 0, 0, rfl, by omega, ⟨by simp, .inl ⟨rfl, rfl⟩⟩, by rw [E.out.2], hbW⟩
      · have hy3 := hb3.size
        replace hr0 := cell_later hb3 hr0
        replace hf0 := free_later hf0 (by simp; omega) hb3
        replace hr1 := cell_later hb3 hr1
        replace hf1 := free_later hf1 (by simp; omega) hb3
        replace hr2 := cell_later hb3 hr2
        replace hf2 := free_later hf2 (by simp; omega) hb3
        replace hr3 := cell_later hb3 hr3
        replace hf3 := free_later hf3 (by simp; omega) hb3
        replace hc0 := cell_later hb3 hc0
        replace hc1 := cell_later hb3 hc1
        replace hc2 := cell_later hb3 hc2
        replace hbF := hbF.trans (hb3.mono hbF.size)
        by_cases hkn : ms.length = 2
        rotate_left
        · have E := Lib.hid (step_none (stepO_of (oN_wbad1 okStep_name HC.out fun ns' h => by rw [hsome] at h; cases h; exact hkn)))
          have hne : ((ms.length : Int) == 2) = false := by rw [beq_eq_false_iff_ne]; omega
          clear hsome hsome3 hkn hg2 hg3
          have HF := set_cells (w := w3) (g := w.heap.size) [.string ⟨#[]⟩, .int .i64 0, .int .i64 0, .slice none 0 0] 0 (fun j hj => by
            match j, hj with
            | 0, _ => exact ⟨_, hr0⟩
            | 1, _ => exact ⟨_, hr1⟩
            | 2, _ => exact ⟨_, hr2⟩
            | 3, _ => exact ⟨_, hr3⟩)
          have hbW := below_setCells (Nat.le_refl w.heap.size) [.string ⟨#[]⟩, .int .i64 0, .int .i64 0, .slice none 0 0] 0 hbF
          go_wp2
          change bodyPost _ _ _ _ _ (w3.setCells w.heap.size 0 [.string ⟨#[]⟩, .int .i64 0, .int .i64 0, .slice none 0 0])
          generalize w3.setCells w.heap.size 0 [.string ⟨#[]⟩, .int .i64 0, .int .i64 0, .slice none 0 0] = Wf at *
          have qf0 := HF 0 _ rfl
          have qf1 := HF 1 _ rfl
          have qf2 := HF 2 _ rfl
          have qf3 := HF 3 _ rfl
          simp only [Nat.zero_add] at qf0 qf1 qf2 qf3
          exact bodyPost_ret (v := .tuple #[.agg #[.string ⟨#[]⟩, .int .i64 0, .int .i64 0, .slice none 0 0], .bool false]) (by simp [results, Tryd.results6, go_sem, qf0, qf1, qf2, qf3]) rfl ⟨⟨⟨#[]⟩, 0, 0, []⟩, Lib.hid E.out.1.symm, none, 0, 0, rfl, by omega, ⟨by simp, .inl ⟨rfl, rfl⟩⟩, by rw [E.out.2], hbW⟩
        · obtain ⟨n0, n1, hns⟩ : ∃ n0 n1, ms = [n0, n1] := by
            match ms, hkn with
            | [n0, n1], _ => exact ⟨n0, n1, rfl⟩
          subst hns
          have HO := Lib.hid (oN_text okStep_name HC.out hsome hsome3)
          have hm := (listL_range hsome3).1
          obtain ⟨g, rfl, hg1, hgg, hcs⟩ := (hg2.below hb3).ints (by simp)
          have hn0 := hcs 0 _ rfl
          have hn1 := hcs 1 _ rfl
          have hbb3 : b < w3.heap.size := by omega
          have hka : ∀ o, (w3.alloc o).drew.cell? ⟨b, off, none⟩ = some (.string p0) := fun o => (World.cell?_alloc_lt w3 o _ hbb3).trans hc0
          have hk0 : ∀ o, (w3.alloc o).drew.cell? ⟨g, 0, none⟩ = some (.int .i64 n0) := fun o => (World.cell?_alloc_lt w3 o _ hgg).trans hn0
          have hk1 : ∀ o, (w3.alloc o).drew.cell? ⟨g, 1, none⟩ = some (.int .i64 n1) := fun o => (World.cell?_alloc_lt w3 o _ hgg).trans hn1
          clear hcs hg2 hsome hsome3 hkn
          go_wp2_with fail
          go_region_held3 (fun w' => w'.cell? ⟨b, off, none⟩ = some (.string p0) ∧ w'.cell? ⟨g, 0, none⟩ = some (.int .i64 n0) ∧ w'.cell? ⟨g, 1, none⟩ = some (.int .i64 n1)) (first | exact ⟨hc0, hn0, hn1⟩ | exact ⟨hka _, hk0 _, hk1 _⟩) (first | fail)
          have hbx : Below w3.heap.size w3 (w3.alloc (.cells #[.string p0, .int .i64 n0, .int .i64 n1, .slice A3 ns.length c3] 24)).drew := ((Below.refl _ _).alloc (Nat.le_refl _) _).drew
          have hxR : (w3.alloc (.cells #[.string p0, .int .i64 n0, .int .i64 n1, .slice A3 ns.length c3] 24)).drew.rangeAt w3.heap.size 0 [.string p0, .int .i64 n0, .int .i64 n1, .slice A3 ns.length c3] := range_new w3 #[.string p0, .int .i64 n0, .int .i64 n1, .slice A3 ns.length c3] 24
          obtain ⟨W2, hW2⟩ : ∃ W, (w3.alloc (.cells #[.string p0, .int .i64 n0, .int .i64 n1, .slice A3 ns.length c3] 24)).drew = W := ⟨_, rfl⟩
          rw [hW2] at hbx hxR
          replace hr0 := cell_later hbx hr0
          replace hf0 := free_later hf0 (by simp; omega) hbx
          replace hr1 := cell_later hbx hr1
          replace hf1 := free_later hf1 (by simp; omega) hbx
          replace hr2 := cell_later hbx hr2
          replace hf2 := free_later hf2 (by simp; omega) hbx
          replace hr3 := cell_later hbx hr3
          replace hf3 := free_later hf3 (by simp; omega) hbx
          replace hbF := hbF.trans (hbx.mono hbF.size)
          replace hg3 := hg3.below hbx
          have hzz := hbx.size
          have hy0 := hxR 0 _ rfl
          have hy1 := hxR 1 _ rfl
          have hy2 := hxR 2 _ rfl
          have hy3 := hxR 3 _ rfl
          simp only [Nat.zero_add] at hy0 hy1 hy2 hy3
          clear hc0 hc1 hc2 hka hn0 hn1 hk0 hk1 hbx
          rename_i hheld; clear hheld
          go_wp2_with fail
          try rw [hW2]
          clear hW2
          obtain ⟨U, hU⟩ : ∃ U, stepText ⟨p0, n0, n1, ns⟩ = U := ⟨_, rfl⟩
          have hcall := i_StepText ⟨p0, n0, n1, ns⟩ A3 ns.length c3 W2 (by show p0.size ≤ _; omega) hg3.rd (by obtain ⟨F, _, hO⟩ := OL.of_own hg3.own.2 hg3.own.1; exact hO.max) (hL.below hbF)
          rw [hU] at hcall
          have HU := Lib.hid hU; clear hU
          refine hcall.mono ?_
          rintro e w4 ⟨rfl, hb4⟩
          clear hcall
          replace hr0 := cell_later hb4 hr0
          replace hf0 := free_later hf0 (by simp; omega) hb4
          replace hr1 := cell_later hb4 hr1
          replace hf1 := free_later hf1 (by simp; omega) hb4
          replace hr2 := cell_later hb4 hr2
          replace hf2 := free_later hf2 (by simp; omega) hb4
          replace hr3 := cell_later hb4 hr3
          replace hf3 := free_later hf3 (by simp; omega) hb4
          replace hy0 := cell_later hb4 hy0
          replace hy1 := cell_later hb4 hy1
          replace hy2 := cell_later hb4 hy2
          replace hy3 := cell_later hb4 hy3
          replace hbF := hbF.trans (hb4.mono hbF.size)
          replace hg3 := hg3.below hb4
          clear hxR
          by_cases hq : U.data.toList = s.data.toList
          · have hO : oN okStep4 s = some (p0, n0, n1, ns) := by rw [HO.out, if_pos (by have := HU.out; unfold stepText at this; rw [this]; exact hq)]
            have E := Lib.hid (step_some (stepO_is hO))
            have h12 := okStep_len (x := ⟨p0, n0, n1, ns⟩) (oN_ok hO)
            simp only at h12
            have ht : (U.toList == s.toList) = true := by rw [ByteArray.toList_eq, ByteArray.toList_eq, hq]; simp
            clear hq hO
            have HF := set_cells (w := w4) (g := w.heap.size) [.string p0, .int .i64 n0, .int .i64 n1, .slice A3 ns.length c3] 0 (fun j hj => by
              match j, hj with
              | 0, _ => exact ⟨_, hr0⟩
              | 1, _ => exact ⟨_, hr1⟩
              | 2, _ => exact ⟨_, hr2⟩
              | 3, _ => exact ⟨_, hr3⟩)
            have hbW := below_setCells (Nat.le_refl w.heap.size) [.string p0, .int .i64 n0, .int .i64 n1, .slice A3 ns.length c3] 0 hbF
            have hgW := (hg3.touch (Touch.setCells (F := fun k => k = w.heap.size) (g := w.heap.size) rfl [.string p0, .int .i64 n0, .int .i64 n1, .slice A3 ns.length c3] 0) (fun k hk e => by have := (hg3.lt k hk).1; omega)).mono (base' := w.heap.size) (by omega)
            have hoW := hgW.own.2
            clear hgW hg3
            go_wp2
            change bodyPost _ _ _ _ _ (w4.setCells w.heap.size 0 [.string p0, .int .i64 n0, .int .i64 n1, .slice A3 ns.length c3])
            generalize w4.setCells w.heap.size 0 [.string p0, .int .i64 n0, .int .i64 n1, .slice A3 ns.length c3] = Wf at *
            have qf0 := HF 0 _ rfl
            have qf1 := HF 1 _ rfl
            have qf2 := HF 2 _ rfl
            have qf3 := HF 3 _ rfl
            simp only [Nat.zero_add] at qf0 qf1 qf2 qf3
            exact bodyPost_ret (v := .tuple #[.agg #[.string p0, .int .i64 n0, .int .i64 n1, .slice A3 ns.length c3], .bool true]) (by simp [results, Tryd.results6, go_sem, qf0, qf1, qf2, qf3]) rfl ⟨⟨p0, n0, n1, ns⟩, Lib.hid E.out.1.symm, A3, ns.length, c3, rfl, by omega, hoW, by rw [E.out.2], hbW⟩
          · have E := Lib.hid (step_none (stepO_of (by rw [HO.out, if_neg (by have := HU.out; unfold stepText at this; rw [this]; exact hq)])))
            have ht : (U.toList == s.toList) = false := by rw [ByteArray.toList_eq, ByteArray.toList_eq, beq_eq_false_iff_ne]; exact hq
            clear hq hg3
            have HF := set_cells (w := w4) (g := w.heap.size) [.string ⟨#[]⟩, .int .i64 0, .int .i64 0, .slice none 0 0] 0 (fun j hj => by
              match j, hj with
              | 0, _ => exact ⟨_, hr0⟩
              | 1, _ => exact ⟨_, hr1⟩
              | 2, _ => exact ⟨_, hr2⟩
              | 3, _ => exact ⟨_, hr3⟩)
            have hbW := below_setCells (Nat.le_refl w.heap.size) [.string ⟨#[]⟩, .int .i64 0, .int .i64 0, .slice none 0 0] 0 hbF
            go_wp2
            change bodyPost _ _ _ _ _ (w4.setCells w.heap.size 0 [.string ⟨#[]⟩, .int .i64 0, .int .i64 0, .slice none 0 0])
            generalize w4.setCells w.heap.size 0 [.string ⟨#[]⟩, .int .i64 0, .int .i64 0, .slice none 0 0] = Wf at *
            have qf0 := HF 0 _ rfl
            have qf1 := HF 1 _ rfl
            have qf2 := HF 2 _ rfl
            have qf3 := HF 3 _ rfl
            simp only [Nat.zero_add] at qf0 qf1 qf2 qf3
            exact bodyPost_ret (v := .tuple #[.agg #[.string ⟨#[]⟩, .int .i64 0, .int .i64 0, .slice none 0 0], .bool false]) (by simp [results, Tryd.results6, go_sem, qf0, qf1, qf2, qf3]) rfl ⟨⟨⟨#[]⟩, 0, 0, []⟩, Lib.hid E.out.1.symm, none, 0, 0, rfl, by omega, ⟨by simp, .inl ⟨rfl, rfl⟩⟩, by rw [E.out.2], hbW⟩
  · have E := Lib.hid (step_none (stepO_of (oN_wlen (s := s) okStep_name (by rw [hl]; exact h3))))
    have hne : ((n : Int) == 3) = false := by rw [beq_eq_false_iff_ne]; omega
    clear hl hgl h3
    have HF := set_cells (w := w1) (g := w.heap.size) [.string ⟨#[]⟩, .int .i64 0, .int .i64 0, .slice none 0 0] 0 (fun j hj => by
      match j, hj with
      | 0, _ => exact ⟨_, hr0⟩
      | 1, _ => exact ⟨_, hr1⟩
      | 2, _ => exact ⟨_, hr2⟩
      | 3, _ => exact ⟨_, hr3⟩)
    have hbW := below_setCells (Nat.le_refl w.heap.size) [.string ⟨#[]⟩, .int .i64 0, .int .i64 0, .slice none 0 0] 0 hbF
    go_wp2
    change bodyPost _ _ _ _ _ (w1.setCells w.heap.size 0 [.string ⟨#[]⟩, .int .i64 0, .int .i64 0, .slice none 0 0])
    generalize w1.setCells w.heap.size 0 [.string ⟨#[]⟩, .int .i64 0, .int .i64 0, .slice none 0 0] = Wf at *
    have qf0 := HF 0 _ rfl
    have qf1 := HF 1 _ rfl
    have qf2 := HF 2 _ rfl
    have qf3 := HF 3 _ rfl
    simp only [Nat.zero_add] at qf0 qf1 qf2 qf3
    exact bodyPost_ret (v := .tuple #[.agg #[.string ⟨#[]⟩, .int .i64 0, .int .i64 0, .slice none 0 0], .bool false]) (by simp [results, Tryd.results6, go_sem, qf0, qf1, qf2, qf3]) rfl ⟨⟨⟨#[]⟩, 0, 0, []⟩, Lib.hid E.out.1.symm, none, 0, 0, rfl, by omega, ⟨by simp, .inl ⟨rfl, rfl⟩⟩, by rw [E.out.2], hbW⟩

end Go.Proofs.YtiaibjdppmgjlaaDoor
