/- Reading: Stack. Printed by a program of mine. -/
import Derived.Test.YtdkpgcnjlamcbaaGreatDoorRows
import Derived.Test.YtdkpgcnjlamcbaaGreatDoorWordsND
import Derived.Test.YtdkpgcnjlamcbaaGreatDoorCStack
import Derived.Test.YtdkpgcnjlamcbaaGreatDoorDates3
import Derived.Test.YtdkpgcnjlamcbaaGreatDoorRng
import Derived.Test.YtdkpgcnjlamcbaaGreatDoorBasic
import Derived.Test.YtdkpgcnjlamcbaaGreatDoorRes
import Derived.Test.YtdkpgcnjlamcbaaGreatDoorTwo
import Derived.Deep.RegionHeld3
namespace Go.Proofs.YtdkpgcnjlamcbaaGreatDoor
set_option linter.unusedVariables false
set_option linter.unusedSimpArgs false
set_option linter.unusedSectionVars false
open Go.RowKit

def okStack4 (p : ByteArray) (n0 n1 ns : Int) : Bool := nameB p && (inB n0 0 1000 && (inB n1 10 1000 && inB ns 0 36524))
def okStack (x : DStack) : Bool := okStack4 x.fId x.fMoisture x.fThick x.fSince
theorem okStack_name (p : ByteArray) (n0 n1 ns : Int) (h : okStack4 p n0 n1 ns = true) : nameB p = true := by
  unfold okStack4 at h
  simp only [Bool.and_eq_true] at h
  exact h.1
def stackO (s : ByteArray) : Option DStack := (oD okStack4 s).map fun y => ⟨y.1, y.2.1, y.2.2.1, y.2.2.2⟩
def stackV (s : ByteArray) : DStack := (stackO s).getD ⟨⟨#[]⟩, 0, 0, 0⟩
def stackOk (s : ByteArray) : Bool := (stackO s).isSome
noncomputable def stackText (x : DStack) : ByteArray := textD okStack4 x.fId x.fMoisture x.fThick x.fSince
theorem stackO_of {s : ByteArray} (h : oD okStack4 s = none) : stackO s = none := by unfold stackO; rw [h]; rfl
theorem stackO_is {s p : ByteArray} {n0 n1 ns : Int} (h : oD okStack4 s = some (p, n0, n1, ns)) : stackO s = some ⟨p, n0, n1, ns⟩ := by unfold stackO; rw [h]; rfl
theorem stack_none {s : ByteArray} (h : stackO s = none) : stackV s = ⟨⟨#[]⟩, 0, 0, 0⟩ ∧ stackOk s = false := by unfold stackV stackOk; rw [h]; exact ⟨rfl, rfl⟩
theorem stack_some {s : ByteArray} {x : DStack} (h : stackO s = some x) : stackV s = x ∧ stackOk s = true := by unfold stackV stackOk; rw [h]; exact ⟨rfl, rfl⟩
theorem nl_name_size {s : ByteArray} (h : nameB s = true) : s.size ≤ 10 := by
  unfold nameB at h
  rw [Bool.and_eq_true, Bool.and_eq_true] at h
  have := of_decide_eq_true h.2.2
  omega
theorem nl_word_size {s p : ByteArray} {k : Nat} (h : (wordsB s)[k]? = some p) : p.size ≤ s.size := by
  have h1 := List.mem_of_getElem? h
  unfold wordsB at h1
  obtain ⟨j, hj⟩ := List.mem_iff_getElem?.1 (List.mem_filter.1 h1).1
  exact piece_size hj


theorem date_no {s : ByteArray} (h : dateOk s = false) : dateI s.data.toList = none := by
  unfold dateOk at h
  unfold dateI
  cases hh : dateRead s.data.toList with
  | none => rfl
  | some m => rw [hh] at h; cases h
theorem date_yes {s : ByteArray} (h : dateOk s = true) : dateI s.data.toList = some (dateV s) := by
  unfold dateOk at h
  unfold dateI dateV
  cases hh : dateRead s.data.toList with
  | none => rw [hh] at h; cases h
  | some m => rfl
set_option maxHeartbeats 1000000 in
theorem s_l04One (b off : Nat) (x : DStack) (w : World) (hg : x.fId.size ≤ maxLen) (hc : w.rangeAt b off (stackE.cells x)) :
    Calls Tryz.prog 15 #[.pointer (some ⟨b, off, none⟩)] w (RetB (okStack x) w) := by
  have hc0 := hc 0 _ rfl
  have hc1 := hc 1 _ rfl
  have hc2 := hc 2 _ rfl
  have hc3 := hc 3 _ rfl
  rw [Nat.add_zero] at hc0
  clear hc
  go_enter Tryz.func15, Tryz.ntmps15
  go_wp2_with fail
  refine (s_l01Name x.fId _ hg).mono ?_
  rintro e w' ⟨rfl, rfl⟩
  rcases h0 : nameB x.fId with _ | _
  · have E : Hid (okStack x = false) := Lib.hid (by unfold okStack okStack4; rw [h0]; rfl)
    clear h0
    go_wp2
    go_ret
    exact ⟨ret_bool E.out.symm, Below.refl _ _⟩
  · have H0 := Lib.hid h0; clear h0
    go_wp2_with fail
    refine (s_l04Share _ _).mono ?_
    rintro e w' ⟨rfl, rfl⟩
    rcases h1 : inB x.fMoisture 0 1000 with _ | _
    · have E : Hid (okStack x = false) := Lib.hid (by unfold okStack okStack4; rw [H0.out, h1]; rfl)
      clear h1
      go_wp2
      go_ret
      exact ⟨ret_bool E.out.symm, Below.refl _ _⟩
    · have H1 := Lib.hid h1; clear h1
      go_wp2_with fail
      refine (s_l04Thick _ _).mono ?_
      rintro e w' ⟨rfl, rfl⟩
      rcases h2 : inB x.fThick 10 1000 with _ | _
      · have E : Hid (okStack x = false) := Lib.hid (by unfold okStack okStack4; rw [H0.out, H1.out, h2]; rfl)
        clear h2
        go_wp2
        go_ret
        exact ⟨ret_bool E.out.symm, Below.refl _ _⟩
      · have H2 := Lib.hid h2; clear h2
        go_wp2_with fail
        refine (s_l02Day _ _).mono ?_
        rintro e w' ⟨rfl, rfl⟩
        go_wp2
        go_ret
        exact ⟨ret_bool (by unfold okStack okStack4; rw [H0.out, H1.out, H2.out]; rfl), Below.refl _ _⟩
set_option maxRecDepth 100000 in
set_option maxHeartbeats 1000000 in
theorem i_validStack (x : DStack) (w : World) (hg : x.fId.size ≤ maxLen) :
    Calls Tryz.prog 22 #[.agg #[.string x.fId, .int .i64 x.fMoisture, .int .i64 x.fThick, .int .i64 x.fSince]] w (RetB (okStack x) w) := by
  have hR := range_new w #[.string x.fId, .int .i64 x.fMoisture, .int .i64 x.fThick, .int .i64 x.fSince] 23
  have hb0 : Below w.heap.size w (w.alloc (.cells #[.string x.fId, .int .i64 x.fMoisture, .int .i64 x.fThick, .int .i64 x.fSince] 23)) := (Below.refl _ _).alloc (Nat.le_refl _) _
  obtain ⟨W0, hW0⟩ : ∃ W0, w.alloc (.cells #[.string x.fId, .int .i64 x.fMoisture, .int .i64 x.fThick, .int .i64 x.fSince] 23) = W0 := ⟨_, rfl⟩
  rw [hW0] at hR hb0
  have hc0 := hR 0 _ rfl
  have hc1 := hR 1 _ rfl
  have hc2 := hR 2 _ rfl
  have hc3 := hR 3 _ rfl
  simp only [Nat.zero_add] at hc0 hc1 hc2 hc3
  clear hR
  go_enter Tryz.func22, Tryz.ntmps22
  go_wp2_with fail
  try rw [hW0]
  clear hW0
  refine (i_IsName x.fId _ (by assumption)).mono ?_
  rintro e w' ⟨rfl, rfl⟩
  rcases h0 : nameB x.fId with _ | _
  · have E : Hid (okStack x = false) := Lib.hid (by unfold okStack okStack4; rw [h0]; rfl)
    clear h0
    go_wp2
    go_ret
    exact ⟨ret_bool E.out.symm, hb0⟩
  · have H0 := Lib.hid h0; clear h0
    go_wp2_with fail
    refine (i_isPart _ _).mono ?_
    rintro e w' ⟨rfl, rfl⟩
    rcases h1 : inB x.fMoisture 0 1000 with _ | _
    · have E : Hid (okStack x = false) := Lib.hid (by unfold okStack okStack4; rw [H0.out, h1]; rfl)
      clear h1
      go_wp2
      go_ret
      exact ⟨ret_bool E.out.symm, hb0⟩
    · have H1 := Lib.hid h1; clear h1
      go_wp2_with fail
      refine (i_within _ _ _ _).mono ?_
      rintro e w' ⟨rfl, rfl⟩
      rcases h2 : inB x.fThick 10 1000 with _ | _
      · have E : Hid (okStack x = false) := Lib.hid (by unfold okStack okStack4; rw [H0.out, H1.out, h2]; rfl)
        clear h2
        go_wp2
        go_ret
        exact ⟨ret_bool E.out.symm, hb0⟩
      · have H2 := Lib.hid h2; clear h2
        go_wp2_with fail
        refine (i_isDay _ _).mono ?_
        rintro e w' ⟨rfl, rfl⟩
        go_wp2
        go_ret
        exact ⟨ret_bool (by unfold okStack okStack4; rw [H0.out, H1.out, H2.out]; rfl), hb0⟩

set_option maxRecDepth 100000 in
set_option maxHeartbeats 4000000 in
theorem i_StackText (x : DStack) (w : World) (hg : x.fId.size ≤ 1048576) (hL : LibW w) :
    Calls Tryz.prog 11 #[.agg #[.string x.fId, .int .i64 x.fMoisture, .int .i64 x.fThick, .int .i64 x.fSince]] w fun e w' => e = .returned (.string (stackText x)) ∧ Below w.heap.size w w' := by
  have hR := range_new w #[.string x.fId, .int .i64 x.fMoisture, .int .i64 x.fThick, .int .i64 x.fSince] 23
  have hb0 : Below w.heap.size w (w.alloc (.cells #[.string x.fId, .int .i64 x.fMoisture, .int .i64 x.fThick, .int .i64 x.fSince] 23)) := (Below.refl _ _).alloc (Nat.le_refl _) _
  obtain ⟨W0, hW0⟩ : ∃ W0, w.alloc (.cells #[.string x.fId, .int .i64 x.fMoisture, .int .i64 x.fThick, .int .i64 x.fSince] 23) = W0 := ⟨_, rfl⟩
  have hsz : W0.heap.size = w.heap.size + 1 := by rw [← hW0]; simp
  rw [hW0] at hR hb0
  have hc0 := hR 0 _ rfl
  have hc1 := hR 1 _ rfl
  have hc2 := hR 2 _ rfl
  have hc3 := hR 3 _ rfl
  simp only [Nat.zero_add] at hc0 hc1 hc2 hc3
  clear hR
  go_enter Tryz.func11, Tryz.ntmps11
  go_wp2_with fail
  try rw [hW0]
  clear hW0
  refine (i_validStack x _ (by unfold maxLen; omega)).mono ?_
  rintro e w1 ⟨rfl, hb⟩
  replace hc0 := cell_later hb hc0
  replace hc1 := cell_later hb hc1
  replace hc2 := cell_later hb hc2
  replace hc3 := cell_later hb hc3
  have hbF := hb0.trans (hb.mono hb0.size)
  have hz1 := hb.size
  rw [hsz] at hz1
  rcases hk : okStack x with _ | _
  · have E : Hid (stackText x = ⟨#[]⟩) := Lib.hid (by unfold stackText textD; rw [if_neg (by unfold okStack at hk; rw [hk]; simp)])
    clear hk
    go_wp2
    go_ret
    exact ⟨by rw [E.out]; rfl, hbF⟩
  · have E : Hid (stackText x = x.fId ++ ⟨#[32]⟩ ++ ofL (textL [x.fMoisture, x.fThick]) ++ ⟨#[32]⟩ ++ ofL (dateT x.fSince)) := Lib.hid (by unfold stackText textD; exact if_pos hk)
    have hk' := hk
    unfold okStack okStack4 at hk'
    simp only [Bool.and_eq_true] at hk'
    have hn3 : 0 ≤ x.fSince ∧ x.fSince ≤ 36524 := by have := hk'.2.2.2; unfold inB at this; simp only [Bool.and_eq_true, decide_eq_true_eq] at this; omega
    obtain ⟨D, hDn⟩ := Int.eq_ofNat_of_zero_le hn3.1
    have hD : D ≤ 36524 := by omega
    have hnm := nl_name_size hk'.1
    have hn1 : -1000000000000 ≤ x.fMoisture ∧ x.fMoisture ≤ 1000000000000 := by have := hk'.2.1; unfold inB at this; simp only [Bool.and_eq_true, decide_eq_true_eq] at this; omega
    have hn2 : -1000000000000 ≤ x.fThick ∧ x.fThick ≤ 1000000000000 := by have := hk'.2.2.1; unfold inB at this; simp only [Bool.and_eq_true, decide_eq_true_eq] at this; omega
    have hr1 : ∀ m ∈ [x.fMoisture, x.fThick], -1000000000000 ≤ m ∧ m ≤ 1000000000000 := fun m hm => by
      simp only [List.mem_cons, List.mem_nil_iff, or_false] at hm
      rcases hm with rfl | rfl
      · exact hn1
      · exact hn2
    have hzT : (ofL (textL [x.fMoisture, x.fThick])).size ≤ 1280 := by rw [ofL_size]; exact textL_len hr1 (by simp)
    have hzU : (ofL (dateT x.fSince)).size ≤ 1280 := by rw [ofL_size]; unfold dateT; rw [hDn, Int.toNat_natCast]; obtain ⟨y, m, d, h1, h2⟩ := date_ex hD; rw [← h2, dateL_of h1, fmt_eq h1]; simp
    have HC : Hid (∀ W A c, Rd intE W A 2 [x.fMoisture, x.fThick] → LibW W → Calls Tryz.prog 23 #[.string x.fId, .slice A 2 c] W fun e w' => e = .returned (.string (x.fId ++ ⟨#[32]⟩ ++ ofL (textL [x.fMoisture, x.fThick]))) ∧ Below W.heap.size W w') := Lib.hid (fun W A c h1 h2 => i_named x.fId A 2 c _ W (by omega) h1 (by omega) hr1 h2)
    have HD : Hid (∀ W, Below w.heap.size w W → Calls Tryz.prog 21 #[.int .i64 x.fSince] W fun e w' => e = .returned (.string (ofL (dateT x.fSince))) ∧ Below W.heap.size W w') := Lib.hid (fun W h1 => (by rw [hDn]; unfold dateT; rw [Int.toNat_natCast]; exact i_DateText D W hD (hL.below h1)))
    obtain ⟨T, hT⟩ : ∃ T, ofL (textL [x.fMoisture, x.fThick]) = T := ⟨_, rfl⟩
    obtain ⟨U, hU⟩ : ∃ U, ofL (dateT x.fSince) = U := ⟨_, rfl⟩
    rw [hT] at hzT E HC
    rw [hU] at hzU E HD
    have hlit : ∀ (W : World) (t : TypeId), Rd intE (W.alloc (.cells #[.int .i64 x.fMoisture, .int .i64 x.fThick] t)) (some ⟨W.heap.size, 0, none⟩) 2 [x.fMoisture, x.fThick] := fun W t => Rd.lit1 intE rfl rfl rfl
    have HC1 : Hid (∀ (W : World) (t : TypeId) (c : Nat), LibW (W.alloc (.cells #[.int .i64 x.fMoisture, .int .i64 x.fThick] t)) → Calls Tryz.prog 23 #[.string x.fId, .slice (some ⟨W.heap.size, 0, none⟩) 2 c] (W.alloc (.cells #[.int .i64 x.fMoisture, .int .i64 x.fThick] t)) fun e w' => e = .returned (.string (x.fId ++ ⟨#[32]⟩ ++ T)) ∧ Below (W.alloc (.cells #[.int .i64 x.fMoisture, .int .i64 x.fThick] t)).heap.size (W.alloc (.cells #[.int .i64 x.fMoisture, .int .i64 x.fThick] t)) w') := Lib.hid (fun W t c h => HC.out _ _ c (hlit W t) h)
    have hlitD : ∀ (W : World) (t : TypeId), Rd intE (W.alloc (.cells #[.int .i64 x.fMoisture, .int .i64 x.fThick] t)).drew (some ⟨W.heap.size, 0, none⟩) 2 [x.fMoisture, x.fThick] := fun W t => (hlit W t).below ((Below.refl _ _).drew)
    have HC2 : Hid (∀ (W : World) (t : TypeId) (c : Nat), LibW (W.alloc (.cells #[.int .i64 x.fMoisture, .int .i64 x.fThick] t)).drew → Calls Tryz.prog 23 #[.string x.fId, .slice (some ⟨W.heap.size, 0, none⟩) 2 c] (W.alloc (.cells #[.int .i64 x.fMoisture, .int .i64 x.fThick] t)).drew fun e w' => e = .returned (.string (x.fId ++ ⟨#[32]⟩ ++ T)) ∧ Below (W.alloc (.cells #[.int .i64 x.fMoisture, .int .i64 x.fThick] t)).drew.heap.size (W.alloc (.cells #[.int .i64 x.fMoisture, .int .i64 x.fThick] t)).drew w') := Lib.hid (fun W t c h => HC.out _ _ c (hlitD W t) h)
    have q1 := fun W => run_string_add_sum (P := Tryz.prog) W (x.fId ++ ⟨#[32]⟩ ++ T) ⟨#[32]⟩ (by rw [ba_app_size, ba_app_size]; show _ + 1 + _ + 1 ≤ _; omega)
    have q2 := fun W => run_string_add_sum (P := Tryz.prog) W (x.fId ++ ⟨#[32]⟩ ++ T ++ ⟨#[32]⟩) U (by rw [ba_app_size, ba_app_size, ba_app_size]; show _ + 1 + _ + 1 + _ ≤ _; omega)
    have hlt : w.heap.size < w1.heap.size := by omega
    clear hk hk' hr1 hT hU hb hb0 hsz hn1 hn2 hn3 hnm hDn hD
    go_wp2_with fail
    go_region_held3 (fun w' => (w'.cell? ⟨w.heap.size, 0, none⟩ = some (.string x.fId) ∧ w'.cell? ⟨w.heap.size, 1, none⟩ = some (.int .i64 x.fMoisture) ∧ w'.cell? ⟨w.heap.size, 2, none⟩ = some (.int .i64 x.fThick) ∧ w'.cell? ⟨w.heap.size, 3, none⟩ = some (.int .i64 x.fSince)) ∧ Below w.heap.size w w')
      (first | exact ⟨⟨hc0, hc1, hc2, hc3⟩, hbF.drew⟩
             | (go_split_ands; exact ⟨⟨cell_later hb2 (by assumption), cell_later hb2 (by assumption), cell_later hb2 (by assumption), cell_later hb2 (by assumption)⟩, Below.trans (by assumption) (hb2.mono (Below.size (by assumption)))⟩)
             | (go_split_ands; exact ⟨⟨cell_later hb5 (by assumption), cell_later hb5 (by assumption), cell_later hb5 (by assumption), cell_later hb5 (by assumption)⟩, Below.trans (by assumption) (hb5.mono (Below.size (by assumption)))⟩)
             | (go_split_ands; exact ⟨⟨cell_later ((Below.refl _ _).alloc (Nat.le_refl _) _) (by assumption), cell_later ((Below.refl _ _).alloc (Nat.le_refl _) _) (by assumption), cell_later ((Below.refl _ _).alloc (Nat.le_refl _) _) (by assumption), cell_later ((Below.refl _ _).alloc (Nat.le_refl _) _) (by assumption)⟩, Below.alloc (by assumption) (Below.size (by assumption)) _⟩))
      (first | (go_at_call 21; go_split_ands; refine (HD.out _ (by assumption)).mono ?_; rintro e w5 ⟨rfl, hb5⟩)
             | (go_at_call 23; go_split_ands; first | (with_reducible refine (HC2.out _ _ _ (hL.below (by assumption))).mono ?_; rintro e w2 ⟨rfl, hb2⟩) | (with_reducible refine (HC1.out _ _ _ (hL.below (by assumption))).mono ?_; rintro e w2 ⟨rfl, hb2⟩) | (with_reducible refine (HC.out _ _ _ ((hlitD _ _).below hb5) (hL.below (by assumption))).mono ?_; rintro e w2 ⟨rfl, hb2⟩) | (with_reducible refine (HC.out _ _ _ ((hlit _ _).below hb5) (hL.below (by assumption))).mono ?_; rintro e w2 ⟨rfl, hb2⟩)))
    rename_i hh
    obtain ⟨_, hbE⟩ := hh
    clear q1 q2
    go_wp2
    go_ret
    exact ⟨by rw [E.out]; rfl, hbE⟩
set_option maxRecDepth 100000 in
set_option maxHeartbeats 4000000 in
theorem s_ReadStack (s : ByteArray) (w : World) (hs : s.size ≤ 1048576) :
    Calls Tryz.prog 7 #[.string s] w fun e w' => ∃ x : DStack, Hid (x = stackV s) ∧ e = .returned (.tuple #[.agg #[.string x.fId, .int .i64 x.fMoisture, .int .i64 x.fThick, .int .i64 x.fSince], .bool (stackOk s)]) ∧ Below w.heap.size w w' := by
  have hR := range_new w #[.string ⟨#[]⟩, .int .i64 0, .int .i64 0, .int .i64 0] 23
  have hfr := fun j => new_free w #[.string ⟨#[]⟩, .int .i64 0, .int .i64 0, .int .i64 0] 23 j
  have hb0 : Below w.heap.size w (w.alloc (.cells #[.string ⟨#[]⟩, .int .i64 0, .int .i64 0, .int .i64 0] 23)) := (Below.refl _ _).alloc (Nat.le_refl _) _
  obtain ⟨W0, hW0⟩ : ∃ W0, w.alloc (.cells #[.string ⟨#[]⟩, .int .i64 0, .int .i64 0, .int .i64 0] 23) = W0 := ⟨_, rfl⟩
  have hsz : W0.heap.size = w.heap.size + 1 := by rw [← hW0]; simp
  rw [hW0] at hR hfr hb0
  go_enter Tryz.func7, Tryz.ntmps7
  go_wp2_with fail
  try rw [hW0]
  clear hW0
  refine (s_l01Split s 32 _ hs).mono ?_
  rintro e w1 ⟨A, n, c, hl, hn, ho, rfl, hb⟩
  have hgl : GL strE 9 W0.heap.size w1 (.slice A n c) (cutsB 32 s) := by unfold GL; rw [hl]; exact ho
  have hbF := hb0.trans (hb.mono hb0.size)
  have hsz1 := hb.size
  rw [hsz] at hsz1
  have hR1 := range_below (B := 0) hR hb
  have hr0 := hR1 0 _ rfl
  have hf0 := free_later (hfr 0) (by simp; omega) hb
  have hr1 := hR1 1 _ rfl
  have hf1 := free_later (hfr 1) (by simp; omega) hb
  have hr2 := hR1 2 _ rfl
  have hf2 := free_later (hfr 2) (by simp; omega) hb
  have hr3 := hR1 3 _ rfl
  have hf3 := free_later (hfr 3) (by simp; omega) hb
  simp only [Nat.zero_add] at hr0 hr1 hr2 hr3
  clear ho hR hfr hR1
  by_cases h3 : n = 3
  · subst h3
    have hrd := hgl.rd
    obtain ⟨b, off, p0, hAe, hp0, hcs0⟩ := hrd.get (k := 0) (by omega)
    subst hAe
    obtain ⟨b1, off1, p1, hAe1, hp1, hcs1⟩ := hrd.get (k := 1) (by omega)
    cases hAe1
    obtain ⟨b2, off2, p2, hAe2, hp2, hcs2⟩ := hrd.get (k := 2) (by omega)
    cases hAe2
    have hc0 := hcs0 0 (.string p0) rfl
    have hc1 := hcs1 0 (.string p1) rfl
    have hc2 := hcs2 0 (.string p2) rfl
    simp only [strE, Nat.mul_one, Nat.zero_mul, Nat.add_zero] at hc0 hc1 hc2
    have hbb : b < w1.heap.size := (hgl.own.2.lt b rfl).2
    have hlst : cutsB 32 s = [p0, p1, p2] := by
      match hh : cutsB 32 s, hl with
      | [x, y, z], _ =>
        rw [hh] at hp0 hp1 hp2
        simp at hp0 hp1 hp2
        rw [hp0, hp1, hp2]
    have HC : Hid (cutsL 32 s.data.toList = [p0.data.toList, p1.data.toList, p2.data.toList]) := Lib.hid (by
      have h1 := congrArg (List.map (·.data.toList)) hlst
      unfold cutsB at h1
      rw [List.map_map, show ((fun b : ByteArray => b.data.toList) ∘ ofL) = id by funext l; exact ofL_data l, List.map_id] at h1
      exact h1)
    have hz0 := piece_size hp0
    have hz1 := piece_size hp1
    have hz2 := piece_size hp2
    clear hcs0 hcs1 hcs2 hp0 hp1 hp2 hlst hl hrd hgl
    go_wp2_with fail
    refine (s_ReadList p1 _ (by omega)).mono ?_
    rintro e w2 (⟨hno, A2, n2, c2, rfl, hb2⟩ | ⟨ms, A2, c2, hsome, rfl, hg2, hb2⟩)
    · have E := Lib.hid (stack_none (stackO_of (oD_bad1 HC.out fun ns h => by rw [hno] at h; cases h)))
      clear hno
      replace hr0 := cell_later hb2 hr0
      replace hf0 := free_later hf0 (by simp; omega) hb2
      replace hr1 := cell_later hb2 hr1
      replace hf1 := free_later hf1 (by simp; omega) hb2
      replace hr2 := cell_later hb2 hr2
      replace hf2 := free_later hf2 (by simp; omega) hb2
      replace hr3 := cell_later hb2 hr3
      replace hf3 := free_later hf3 (by simp; omega) hb2
      replace hc0 := cell_later hb2 hc0
      replace hc1 := cell_later hb2 hc1
      replace hc2 := cell_later hb2 hc2
      replace hbF := hbF.trans (hb2.mono hbF.size)
      have hy2 := hb2.size
      go_wp2_with fail
      refine (s_l02Read p2 _ (by omega)).mono ?_
      rintro e w3 ⟨rfl, hb3⟩
      replace hr0 := cell_later hb3 hr0
      replace hf0 := free_later hf0 (by simp; omega) hb3
      replace hr1 := cell_later hb3 hr1
      replace hf1 := free_later hf1 (by simp; omega) hb3
      replace hr2 := cell_later hb3 hr2
      replace hf2 := free_later hf2 (by simp; omega) hb3
      replace hr3 := cell_later hb3 hr3
      replace hf3 := free_later hf3 (by simp; omega) hb3
      replace hbF := hbF.trans (hb3.mono hbF.size)
      have HF := set_cells (w := w3) (g := w.heap.size) [.string ⟨#[]⟩, .int .i64 0, .int .i64 0, .int .i64 0] 0 (fun j hj => by
        match j, hj with
        | 0, _ => exact ⟨_, hr0⟩
        | 1, _ => exact ⟨_, hr1⟩
        | 2, _ => exact ⟨_, hr2⟩
        | 3, _ => exact ⟨_, hr3⟩)
      have hbW := below_setCells (Nat.le_refl w.heap.size) [.string ⟨#[]⟩, .int .i64 0, .int .i64 0, .int .i64 0] 0 hbF
      go_wp2
      change bodyPost _ _ _ _ _ (w3.setCells w.heap.size 0 [.string ⟨#[]⟩, .int .i64 0, .int .i64 0, .int .i64 0])
      generalize w3.setCells w.heap.size 0 [.string ⟨#[]⟩, .int .i64 0, .int .i64 0, .int .i64 0] = Wf at *
      have qf0 := HF 0 _ rfl
      have qf1 := HF 1 _ rfl
      have qf2 := HF 2 _ rfl
      have qf3 := HF 3 _ rfl
      simp only [Nat.zero_add] at qf0 qf1 qf2 qf3
      exact bodyPost_ret (v := .tuple #[.agg #[.string ⟨#[]⟩, .int .i64 0, .int .i64 0, .int .i64 0], .bool false]) (by simp [results, Tryz.results7, go_sem, qf0, qf1, qf2, qf3]) rfl ⟨⟨⟨#[]⟩, 0, 0, 0⟩, Lib.hid E.out.1.symm, by rw [E.out.2], hbW⟩
    · have hy2 := hb2.size
      replace hr0 := cell_later hb2 hr0
      replace hf0 := free_later hf0 (by simp; omega) hb2
      replace hr1 := cell_later hb2 hr1
      replace hf1 := free_later hf1 (by simp; omega) hb2
      replace hr2 := cell_later hb2 hr2
      replace hf2 := free_later hf2 (by simp; omega) hb2
      replace hr3 := cell_later hb2 hr3
      replace hf3 := free_later hf3 (by simp; omega) hb2
      replace hc0 := cell_later hb2 hc0
      replace hc1 := cell_later hb2 hc1
      replace hc2 := cell_later hb2 hc2
      replace hbF := hbF.trans (hb2.mono hbF.size)
      go_wp2_with fail
      refine (s_l02Read p2 _ (by omega)).mono ?_
      rintro e w3 ⟨rfl, hb3⟩
      rcases hdk : dateOk p2 with _ | _
      · have E := Lib.hid (stack_none (stackO_of (oD_bad2 HC.out (date_no hdk))))
        clear hdk hsome hg2
        replace hr0 := cell_later hb3 hr0
        replace hf0 := free_later hf0 (by simp; omega) hb3
        replace hr1 := cell_later hb3 hr1
        replace hf1 := free_later hf1 (by simp; omega) hb3
        replace hr2 := cell_later hb3 hr2
        replace hf2 := free_later hf2 (by simp; omega) hb3
        replace hr3 := cell_later hb3 hr3
        replace hf3 := free_later hf3 (by simp; omega) hb3
        replace hbF := hbF.trans (hb3.mono hbF.size)
        have HF := set_cells (w := w3) (g := w.heap.size) [.string ⟨#[]⟩, .int .i64 0, .int .i64 0, .int .i64 0] 0 (fun j hj => by
          match j, hj with
          | 0, _ => exact ⟨_, hr0⟩
          | 1, _ => exact ⟨_, hr1⟩
          | 2, _ => exact ⟨_, hr2⟩
          | 3, _ => exact ⟨_, hr3⟩)
        have hbW := below_setCells (Nat.le_refl w.heap.size) [.string ⟨#[]⟩, .int .i64 0, .int .i64 0, .int .i64 0] 0 hbF
        go_wp2
        change bodyPost _ _ _ _ _ (w3.setCells w.heap.size 0 [.string ⟨#[]⟩, .int .i64 0, .int .i64 0, .int .i64 0])
        generalize w3.setCells w.heap.size 0 [.string ⟨#[]⟩, .int .i64 0, .int .i64 0, .int .i64 0] = Wf at *
        have qf0 := HF 0 _ rfl
        have qf1 := HF 1 _ rfl
        have qf2 := HF 2 _ rfl
        have qf3 := HF 3 _ rfl
        simp only [Nat.zero_add] at qf0 qf1 qf2 qf3
        exact bodyPost_ret (v := .tuple #[.agg #[.string ⟨#[]⟩, .int .i64 0, .int .i64 0, .int .i64 0], .bool false]) (by simp [results, Tryz.results7, go_sem, qf0, qf1, qf2, qf3]) rfl ⟨⟨⟨#[]⟩, 0, 0, 0⟩, Lib.hid E.out.1.symm, by rw [E.out.2], hbW⟩
      · have hsome3 := date_yes hdk
        obtain ⟨nd, hnd⟩ : ∃ nd, dateV p2 = nd := ⟨_, rfl⟩
        rw [hnd] at hsome3 ⊢
        clear hnd hdk
        have hy3 := hb3.size
        replace hr0 := cell_later hb3 hr0
        replace hf0 := free_later hf0 (by simp; omega) hb3
        replace hr1 := cell_later hb3 hr1
        replace hf1 := free_later hf1 (by simp; omega) hb3
        replace hr2 := cell_later hb3 hr2
        replace hf2 := free_later hf2 (by simp; omega) hb3
        replace hr3 := cell_later hb3 hr3
        replace hf3 := free_later hf3 (by simp; omega) hb3
        replace hc0 := cell_later hb3 hc0
        replace hc1 := cell_later hb3 hc1
        replace hc2 := cell_later hb3 hc2
        replace hbF := hbF.trans (hb3.mono hbF.size)
        by_cases hkn : ms.length = 2
        rotate_left
        · have E := Lib.hid (stack_none (stackO_of (oD_bad1 HC.out fun ns' h => by rw [hsome] at h; cases h; exact hkn)))
          have hne : ((ms.length : Int) == 2) = false := by rw [beq_eq_false_iff_ne]; omega
          clear hsome hsome3 hkn hg2
          have HF := set_cells (w := w3) (g := w.heap.size) [.string ⟨#[]⟩, .int .i64 0, .int .i64 0, .int .i64 0] 0 (fun j hj => by
            match j, hj with
            | 0, _ => exact ⟨_, hr0⟩
            | 1, _ => exact ⟨_, hr1⟩
            | 2, _ => exact ⟨_, hr2⟩
            | 3, _ => exact ⟨_, hr3⟩)
          have hbW := below_setCells (Nat.le_refl w.heap.size) [.string ⟨#[]⟩, .int .i64 0, .int .i64 0, .int .i64 0] 0 hbF
          go_wp2
          change bodyPost _ _ _ _ _ (w3.setCells w.heap.size 0 [.string ⟨#[]⟩, .int .i64 0, .int .i64 0, .int .i64 0])
          generalize w3.setCells w.heap.size 0 [.string ⟨#[]⟩, .int .i64 0, .int .i64 0, .int .i64 0] = Wf at *
          have qf0 := HF 0 _ rfl
          have qf1 := HF 1 _ rfl
          have qf2 := HF 2 _ rfl
          have qf3 := HF 3 _ rfl
          simp only [Nat.zero_add] at qf0 qf1 qf2 qf3
          exact bodyPost_ret (v := .tuple #[.agg #[.string ⟨#[]⟩, .int .i64 0, .int .i64 0, .int .i64 0], .bool false]) (by simp [results, Tryz.results7, go_sem, qf0, qf1, qf2, qf3]) rfl ⟨⟨⟨#[]⟩, 0, 0, 0⟩, Lib.hid E.out.1.symm, by rw [E.out.2], hbW⟩
        · obtain ⟨n0, n1, hns⟩ : ∃ n0 n1, ms = [n0, n1] := by
            match ms, hkn with
            | [n0, n1], _ => exact ⟨n0, n1, rfl⟩
          subst hns
          have HO := Lib.hid (oD_cuts (ok := okStack4) HC.out hsome hsome3)
          have hm := dateI_some hsome3
          obtain ⟨g, rfl, hg1, hgg, hcs⟩ := (hg2.below hb3).ints (by simp)
          have hn0 := hcs 0 _ rfl
          have hn1 := hcs 1 _ rfl
          have hbb3 : b < w3.heap.size := by omega
          have hka : ∀ o, (w3.alloc o).drew.cell? ⟨b, off, none⟩ = some (.string p0) := fun o => (World.cell?_alloc_lt w3 o _ hbb3).trans hc0
          have hk0 : ∀ o, (w3.alloc o).drew.cell? ⟨g, 0, none⟩ = some (.int .i64 n0) := fun o => (World.cell?_alloc_lt w3 o _ hgg).trans hn0
          have hk1 : ∀ o, (w3.alloc o).drew.cell? ⟨g, 1, none⟩ = some (.int .i64 n1) := fun o => (World.cell?_alloc_lt w3 o _ hgg).trans hn1
          clear hcs hg2 hsome hsome3 hkn
          go_wp2_with fail
          go_region_held3 (fun w' => w'.cell? ⟨b, off, none⟩ = some (.string p0) ∧ w'.cell? ⟨g, 0, none⟩ = some (.int .i64 n0) ∧ w'.cell? ⟨g, 1, none⟩ = some (.int .i64 n1)) (first | exact ⟨hc0, hn0, hn1⟩ | exact ⟨hka _, hk0 _, hk1 _⟩) (first | fail)
          have hbx : Below w3.heap.size w3 (w3.alloc (.cells #[.string p0, .int .i64 n0, .int .i64 n1, .int .i64 nd] 23)).drew := ((Below.refl _ _).alloc (Nat.le_refl _) _).drew
          have hxR : (w3.alloc (.cells #[.string p0, .int .i64 n0, .int .i64 n1, .int .i64 nd] 23)).drew.rangeAt w3.heap.size 0 [.string p0, .int .i64 n0, .int .i64 n1, .int .i64 nd] := range_new w3 #[.string p0, .int .i64 n0, .int .i64 n1, .int .i64 nd] 23
          obtain ⟨W2, hW2⟩ : ∃ W, (w3.alloc (.cells #[.string p0, .int .i64 n0, .int .i64 n1, .int .i64 nd] 23)).drew = W := ⟨_, rfl⟩
          rw [hW2] at hbx hxR
          replace hr0 := cell_later hbx hr0
          replace hf0 := free_later hf0 (by simp; omega) hbx
          replace hr1 := cell_later hbx hr1
          replace hf1 := free_later hf1 (by simp; omega) hbx
          replace hr2 := cell_later hbx hr2
          replace hf2 := free_later hf2 (by simp; omega) hbx
          replace hr3 := cell_later hbx hr3
          replace hf3 := free_later hf3 (by simp; omega) hbx
          replace hbF := hbF.trans (hbx.mono hbF.size)
          have hzz := hbx.size
          have hy0 := hxR 0 _ rfl
          have hy1 := hxR 1 _ rfl
          have hy2 := hxR 2 _ rfl
          have hy3 := hxR 3 _ rfl
          simp only [Nat.zero_add] at hy0 hy1 hy2 hy3
          clear hc0 hc1 hc2 hka hn0 hn1 hk0 hk1 hbx
          rename_i hheld; clear hheld
          go_wp2_with fail
          try rw [hW2]
          clear hW2
          refine (s_l04One _ _ ⟨p0, n0, n1, nd⟩ _ (by show p0.size ≤ maxLen; unfold maxLen; omega) hxR).mono ?_
          rintro e w4 ⟨rfl, hb4⟩
          replace hr0 := cell_later hb4 hr0
          replace hf0 := free_later hf0 (by simp; omega) hb4
          replace hr1 := cell_later hb4 hr1
          replace hf1 := free_later hf1 (by simp; omega) hb4
          replace hr2 := cell_later hb4 hr2
          replace hf2 := free_later hf2 (by simp; omega) hb4
          replace hr3 := cell_later hb4 hr3
          replace hf3 := free_later hf3 (by simp; omega) hb4
          replace hy0 := cell_later hb4 hy0
          replace hy1 := cell_later hb4 hy1
          replace hy2 := cell_later hb4 hy2
          replace hy3 := cell_later hb4 hy3
          replace hbF := hbF.trans (hb4.mono hbF.size)
          rcases hq : okStack ⟨p0, n0, n1, nd⟩ with _ | _
          · have E := Lib.hid (stack_none (stackO_of (by rw [HO.out, ofL_self, if_neg (by unfold okStack at hq; rw [hq]; simp)])))
            clear hq
            have HF := set_cells (w := w4) (g := w.heap.size) [.string ⟨#[]⟩, .int .i64 0, .int .i64 0, .int .i64 0] 0 (fun j hj => by
              match j, hj with
              | 0, _ => exact ⟨_, hr0⟩
              | 1, _ => exact ⟨_, hr1⟩
              | 2, _ => exact ⟨_, hr2⟩
              | 3, _ => exact ⟨_, hr3⟩)
            have hbW := below_setCells (Nat.le_refl w.heap.size) [.string ⟨#[]⟩, .int .i64 0, .int .i64 0, .int .i64 0] 0 hbF
            go_wp2
            change bodyPost _ _ _ _ _ (w4.setCells w.heap.size 0 [.string ⟨#[]⟩, .int .i64 0, .int .i64 0, .int .i64 0])
            generalize w4.setCells w.heap.size 0 [.string ⟨#[]⟩, .int .i64 0, .int .i64 0, .int .i64 0] = Wf at *
            have qf0 := HF 0 _ rfl
            have qf1 := HF 1 _ rfl
            have qf2 := HF 2 _ rfl
            have qf3 := HF 3 _ rfl
            simp only [Nat.zero_add] at qf0 qf1 qf2 qf3
            exact bodyPost_ret (v := .tuple #[.agg #[.string ⟨#[]⟩, .int .i64 0, .int .i64 0, .int .i64 0], .bool false]) (by simp [results, Tryz.results7, go_sem, qf0, qf1, qf2, qf3]) rfl ⟨⟨⟨#[]⟩, 0, 0, 0⟩, Lib.hid E.out.1.symm, by rw [E.out.2], hbW⟩
          · have E := Lib.hid (stack_some (stackO_is (by rw [HO.out, ofL_self]; exact if_pos hq)))
            clear hq
            have HF := set_cells (w := w4) (g := w.heap.size) [.string p0, .int .i64 n0, .int .i64 n1, .int .i64 nd] 0 (fun j hj => by
              match j, hj with
              | 0, _ => exact ⟨_, hr0⟩
              | 1, _ => exact ⟨_, hr1⟩
              | 2, _ => exact ⟨_, hr2⟩
              | 3, _ => exact ⟨_, hr3⟩)
            have hbW := below_setCells (Nat.le_refl w.heap.size) [.string p0, .int .i64 n0, .int .i64 n1, .int .i64 nd] 0 hbF
            go_wp2
            change bodyPost _ _ _ _ _ (w4.setCells w.heap.size 0 [.string p0, .int .i64 n0, .int .i64 n1, .int .i64 nd])
            generalize w4.setCells w.heap.size 0 [.string p0, .int .i64 n0, .int .i64 n1, .int .i64 nd] = Wf at *
            have qf0 := HF 0 _ rfl
            have qf1 := HF 1 _ rfl
            have qf2 := HF 2 _ rfl
            have qf3 := HF 3 _ rfl
            simp only [Nat.zero_add] at qf0 qf1 qf2 qf3
            exact bodyPost_ret (v := .tuple #[.agg #[.string p0, .int .i64 n0, .int .i64 n1, .int .i64 nd], .bool true]) (by simp [results, Tryz.results7, go_sem, qf0, qf1, qf2, qf3]) rfl ⟨⟨p0, n0, n1, nd⟩, Lib.hid E.out.1.symm, by rw [E.out.2], hbW⟩
  · have E := Lib.hid (stack_none (stackO_of (oD_len (s := s) (by have hcl : (cutsB 32 s).length = (cutsL 32 s.data.toList).length := (by unfold cutsB; simp); omega))))
    have hne : ((n : Int) == 3) = false := by rw [beq_eq_false_iff_ne]; omega
    clear hl hgl h3
    have HF := set_cells (w := w1) (g := w.heap.size) [.string ⟨#[]⟩, .int .i64 0, .int .i64 0, .int .i64 0] 0 (fun j hj => by
      match j, hj with
      | 0, _ => exact ⟨_, hr0⟩
      | 1, _ => exact ⟨_, hr1⟩
      | 2, _ => exact ⟨_, hr2⟩
      | 3, _ => exact ⟨_, hr3⟩)
    have hbW := below_setCells (Nat.le_refl w.heap.size) [.string ⟨#[]⟩, .int .i64 0, .int .i64 0, .int .i64 0] 0 hbF
    go_wp2
    change bodyPost _ _ _ _ _ (w1.setCells w.heap.size 0 [.string ⟨#[]⟩, .int .i64 0, .int .i64 0, .int .i64 0])
    generalize w1.setCells w.heap.size 0 [.string ⟨#[]⟩, .int .i64 0, .int .i64 0, .int .i64 0] = Wf at *
    have qf0 := HF 0 _ rfl
    have qf1 := HF 1 _ rfl
    have qf2 := HF 2 _ rfl
    have qf3 := HF 3 _ rfl
    simp only [Nat.zero_add] at qf0 qf1 qf2 qf3
    exact bodyPost_ret (v := .tuple #[.agg #[.string ⟨#[]⟩, .int .i64 0, .int .i64 0, .int .i64 0], .bool false]) (by simp [results, Tryz.results7, go_sem, qf0, qf1, qf2, qf3]) rfl ⟨⟨⟨#[]⟩, 0, 0, 0⟩, Lib.hid E.out.1.symm, by rw [E.out.2], hbW⟩

set_option maxRecDepth 100000 in
set_option maxHeartbeats 400000 in
theorem S_ReadStack (s : ByteArray) (w : World) (hs : s.size ≤ 1048576) :
    Calls Tryz.prog 4 #[.string s] w fun e w' => ∃ x : DStack, Hid (x = stackV s) ∧ e = .returned (.tuple #[.agg #[.string x.fId, .int .i64 x.fMoisture, .int .i64 x.fThick, .int .i64 x.fSince], .bool (stackOk s)]) ∧ Below w.heap.size w w' := by
  have hR := range_new w #[.string ⟨#[]⟩, .int .i64 0, .int .i64 0, .int .i64 0] 23
  have hfr := fun j => new_free w #[.string ⟨#[]⟩, .int .i64 0, .int .i64 0, .int .i64 0] 23 j
  have hb0 : Below w.heap.size w (w.alloc (.cells #[.string ⟨#[]⟩, .int .i64 0, .int .i64 0, .int .i64 0] 23)) := (Below.refl _ _).alloc (Nat.le_refl _) _
  obtain ⟨W0, hW0⟩ : ∃ W0, w.alloc (.cells #[.string ⟨#[]⟩, .int .i64 0, .int .i64 0, .int .i64 0] 23) = W0 := ⟨_, rfl⟩
  have hsz : W0.heap.size = w.heap.size + 1 := by rw [← hW0]; simp
  rw [hW0] at hR hfr hb0
  go_enter Tryz.func4, Tryz.ntmps4
  go_wp2_with fail
  try rw [hW0]
  clear hW0
  refine (s_ReadStack s _ hs).mono ?_
  rintro e w1 ⟨x, hx, rfl, hb⟩
  have hbF := hb0.trans (hb.mono hb0.size)
  have hR1 := range_below (B := 0) hR hb
  have hr0 := hR1 0 _ rfl
  have hf0 := free_later (hfr 0) (by simp; omega) hb
  have hr1 := hR1 1 _ rfl
  have hf1 := free_later (hfr 1) (by simp; omega) hb
  have hr2 := hR1 2 _ rfl
  have hf2 := free_later (hfr 2) (by simp; omega) hb
  have hr3 := hR1 3 _ rfl
  have hf3 := free_later (hfr 3) (by simp; omega) hb
  simp only [Nat.zero_add] at hr0 hr1 hr2 hr3
  clear hR hfr hR1
  have HF := set_cells (w := w1) (g := w.heap.size) [.string x.fId, .int .i64 x.fMoisture, .int .i64 x.fThick, .int .i64 x.fSince] 0 (fun j hj => by
    match j, hj with
    | 0, _ => exact ⟨_, hr0⟩
    | 1, _ => exact ⟨_, hr1⟩
    | 2, _ => exact ⟨_, hr2⟩
    | 3, _ => exact ⟨_, hr3⟩)
  have hbW := below_setCells (Nat.le_refl w.heap.size) [.string x.fId, .int .i64 x.fMoisture, .int .i64 x.fThick, .int .i64 x.fSince] 0 hbF
  go_wp2
  change bodyPost _ _ _ _ _ (w1.setCells w.heap.size 0 [.string x.fId, .int .i64 x.fMoisture, .int .i64 x.fThick, .int .i64 x.fSince])
  generalize w1.setCells w.heap.size 0 [.string x.fId, .int .i64 x.fMoisture, .int .i64 x.fThick, .int .i64 x.fSince] = Wf at *
  have qf0 := HF 0 _ rfl
  have qf1 := HF 1 _ rfl
  have qf2 := HF 2 _ rfl
  have qf3 := HF 3 _ rfl
  simp only [Nat.zero_add] at qf0 qf1 qf2 qf3
  exact bodyPost_ret (v := .tuple #[.agg #[.string x.fId, .int .i64 x.fMoisture, .int .i64 x.fThick, .int .i64 x.fSince], .bool (stackOk s)]) (by simp [results, Tryz.results4, go_sem, qf0, qf1, qf2, qf3,]) rfl ⟨x, hx, rfl, hbW⟩

set_option maxRecDepth 100000 in
set_option maxHeartbeats 4000000 in
theorem I_ReadStack (s : ByteArray) (w : World) (hs : s.size ≤ 1048576) (hL : LibW w) :
    Calls Tryz.prog 5 #[.string s] w fun e w' => ∃ x : DStack, Hid (x = stackV s) ∧ e = .returned (.tuple #[.agg #[.string x.fId, .int .i64 x.fMoisture, .int .i64 x.fThick, .int .i64 x.fSince], .bool (stackOk s)]) ∧ Below w.heap.size w w' := by
  have hR := range_new w #[.string ⟨#[]⟩, .int .i64 0, .int .i64 0, .int .i64 0] 23
  have hfr := fun j => new_free w #[.string ⟨#[]⟩, .int .i64 0, .int .i64 0, .int .i64 0] 23 j
  have hb0 : Below w.heap.size w (w.alloc (.cells #[.string ⟨#[]⟩, .int .i64 0, .int .i64 0, .int .i64 0] 23)) := (Below.refl _ _).alloc (Nat.le_refl _) _
  obtain ⟨W0, hW0⟩ : ∃ W0, w.alloc (.cells #[.string ⟨#[]⟩, .int .i64 0, .int .i64 0, .int .i64 0] 23) = W0 := ⟨_, rfl⟩
  have hsz : W0.heap.size = w.heap.size + 1 := by rw [← hW0]; simp
  rw [hW0] at hR hfr hb0
  go_enter Tryz.func5, Tryz.ntmps5
  go_wp2_with fail
  try rw [hW0]
  clear hW0
  refine (i_SplitWords s _ hs (hL.below hb0)).mono ?_
  rintro e w1 ⟨A, n, c, hl, hn, ho, rfl, hb⟩
  have hgl : GL strE 9 W0.heap.size w1 (.slice A n c) (wordsB s) := by unfold GL; rw [hl]; exact ho
  have hbF := hb0.trans (hb.mono hb0.size)
  have hsz1 := hb.size
  rw [hsz] at hsz1
  have hR1 := range_below (B := 0) hR hb
  have hr0 := hR1 0 _ rfl
  have hf0 := free_later (hfr 0) (by simp; omega) hb
  have hr1 := hR1 1 _ rfl
  have hf1 := free_later (hfr 1) (by simp; omega) hb
  have hr2 := hR1 2 _ rfl
  have hf2 := free_later (hfr 2) (by simp; omega) hb
  have hr3 := hR1 3 _ rfl
  have hf3 := free_later (hfr 3) (by simp; omega) hb
  simp only [Nat.zero_add] at hr0 hr1 hr2 hr3
  clear ho hR hfr hR1
  by_cases h3 : n = 3
  · subst h3
    have hrd := hgl.rd
    obtain ⟨b, off, p0, hAe, hp0, hcs0⟩ := hrd.get (k := 0) (by omega)
    subst hAe
    obtain ⟨b1, off1, p1, hAe1, hp1, hcs1⟩ := hrd.get (k := 1) (by omega)
    cases hAe1
    obtain ⟨b2, off2, p2, hAe2, hp2, hcs2⟩ := hrd.get (k := 2) (by omega)
    cases hAe2
    have hc0 := hcs0 0 (.string p0) rfl
    have hc1 := hcs1 0 (.string p1) rfl
    have hc2 := hcs2 0 (.string p2) rfl
    simp only [strE, Nat.mul_one, Nat.zero_mul, Nat.add_zero] at hc0 hc1 hc2
    have hbb : b < w1.heap.size := (hgl.own.2.lt b rfl).2
    have hlst : wordsB s = [p0, p1, p2] := by
      match hh : wordsB s, hl with
      | [x, y, z], _ =>
        rw [hh] at hp0 hp1 hp2
        simp at hp0 hp1 hp2
        rw [hp0, hp1, hp2]
    have HC := Lib.hid hlst
    have hz0 := nl_word_size hp0
    have hz1 := nl_word_size hp1
    have hz2 := nl_word_size hp2
    clear hcs0 hcs1 hcs2 hp0 hp1 hp2 hlst hl hrd hgl
    go_wp2_with fail
    refine (i_ReadList p1 _ (by omega) (hL.below hbF)).mono ?_
    rintro e w2 (⟨hno, A2, n2, c2, rfl, hb2⟩ | ⟨ms, A2, c2, hsome, rfl, hg2, hb2⟩)
    · have E := Lib.hid (stack_none (stackO_of (oD_wbad1 okStack_name HC.out fun ns h => by rw [hno] at h; cases h)))
      clear hno
      replace hr0 := cell_later hb2 hr0
      replace hf0 := free_later hf0 (by simp; omega) hb2
      replace hr1 := cell_later hb2 hr1
      replace hf1 := free_later hf1 (by simp; omega) hb2
      replace hr2 := cell_later hb2 hr2
      replace hf2 := free_later hf2 (by simp; omega) hb2
      replace hr3 := cell_later hb2 hr3
      replace hf3 := free_later hf3 (by simp; omega) hb2
      replace hc0 := cell_later hb2 hc0
      replace hc1 := cell_later hb2 hc1
      replace hc2 := cell_later hb2 hc2
      replace hbF := hbF.trans (hb2.mono hbF.size)
      have hy2 := hb2.size
      go_wp2_with fail
      refine (i_ReadDate p2 _ (by omega) (hL.below hbF)).mono ?_
      rintro e w3 ⟨rfl, hb3⟩
      replace hr0 := cell_later hb3 hr0
      replace hf0 := free_later hf0 (by simp; omega) hb3
      replace hr1 := cell_later hb3 hr1
      replace hf1 := free_later hf1 (by simp; omega) hb3
      replace hr2 := cell_later hb3 hr2
      replace hf2 := free_later hf2 (by simp; omega) hb3
      replace hr3 := cell_later hb3 hr3
      replace hf3 := free_later hf3 (by simp; omega) hb3
      replace hbF := hbF.trans (hb3.mono hbF.size)
      have HF := set_cells (w := w3) (g := w.heap.size) [.string ⟨#[]⟩, .int .i64 0, .int .i64 0, .int .i64 0] 0 (fun j hj => by
        match j, hj with
        | 0, _ => exact ⟨_, hr0⟩
        | 1, _ => exact ⟨_, hr1⟩
        | 2, _ => exact ⟨_, hr2⟩
        | 3, _ => exact ⟨_, hr3⟩)
      have hbW := below_setCells (Nat.le_refl w.heap.size) [.string ⟨#[]⟩, .int .i64 0, .int .i64 0, .int .i64 0] 0 hbF
      go_wp2
      change bodyPost _ _ _ _ _ (w3.setCells w.heap.size 0 [.string ⟨#[]⟩, .int .i64 0, .int .i64 0, .int .i64 0])
      generalize w3.setCells w.heap.size 0 [.string ⟨#[]⟩, .int .i64 0, .int .i64 0, .int .i64 0] = Wf at *
      have qf0 := HF 0 _ rfl
      have qf1 := HF 1 _ rfl
      have qf2 := HF 2 _ rfl
      have qf3 := HF 3 _ rfl
      simp only [Nat.zero_add] at qf0 qf1 qf2 qf3
      exact bodyPost_ret (v := .tuple #[.agg #[.string ⟨#[]⟩, .int .i64 0, .int .i64 0, .int .i64 0], .bool false]) (by simp [results, Tryz.results5, go_sem, qf0, qf1, qf2, qf3]) rfl ⟨⟨⟨#[]⟩, 0, 0, 0⟩, Lib.hid E.out.1.symm, by rw [E.out.2], hbW⟩
    · have hy2 := hb2.size
      replace hr0 := cell_later hb2 hr0
      replace hf0 := free_later hf0 (by simp; omega) hb2
      replace hr1 := cell_later hb2 hr1
      replace hf1 := free_later hf1 (by simp; omega) hb2
      replace hr2 := cell_later hb2 hr2
      replace hf2 := free_later hf2 (by simp; omega) hb2
      replace hr3 := cell_later hb2 hr3
      replace hf3 := free_later hf3 (by simp; omega) hb2
      replace hc0 := cell_later hb2 hc0
      replace hc1 := cell_later hb2 hc1
      replace hc2 := cell_later hb2 hc2
      replace hbF := hbF.trans (hb2.mono hbF.size)
      go_wp2_with fail
      refine (i_ReadDate p2 _ (by omega) (hL.below hbF)).mono ?_
      rintro e w3 ⟨rfl, hb3⟩
      rcases hdk : dateOk p2 with _ | _
      · have E := Lib.hid (stack_none (stackO_of (oD_wbad2 okStack_name HC.out (date_no hdk))))
        clear hdk hsome hg2
        replace hr0 := cell_later hb3 hr0
        replace hf0 := free_later hf0 (by simp; omega) hb3
        replace hr1 := cell_later hb3 hr1
        replace hf1 := free_later hf1 (by simp; omega) hb3
        replace hr2 := cell_later hb3 hr2
        replace hf2 := free_later hf2 (by simp; omega) hb3
        replace hr3 := cell_later hb3 hr3
        replace hf3 := free_later hf3 (by simp; omega) hb3
        replace hbF := hbF.trans (hb3.mono hbF.size)
        have HF := set_cells (w := w3) (g := w.heap.size) [.string ⟨#[]⟩, .int .i64 0, .int .i64 0, .int .i64 0] 0 (fun j hj => by
          match j, hj with
          | 0, _ => exact ⟨_, hr0⟩
          | 1, _ => exact ⟨_, hr1⟩
          | 2, _ => exact ⟨_, hr2⟩
          | 3, _ => exact ⟨_, hr3⟩)
        have hbW := below_setCells (Nat.le_refl w.heap.size) [.string ⟨#[]⟩, .int .i64 0, .int .i64 0, .int .i64 0] 0 hbF
        go_wp2
        change bodyPost _ _ _ _ _ (w3.setCells w.heap.size 0 [.string ⟨#[]⟩, .int .i64 0, .int .i64 0, .int .i64 0])
        generalize w3.setCells w.heap.size 0 [.string ⟨#[]⟩, .int .i64 0, .int .i64 0, .int .i64 0] = Wf at *
        have qf0 := HF 0 _ rfl
        have qf1 := HF 1 _ rfl
        have qf2 := HF 2 _ rfl
        have qf3 := HF 3 _ rfl
        simp only [Nat.zero_add] at qf0 qf1 qf2 qf3
        exact bodyPost_ret (v := .tuple #[.agg #[.string ⟨#[]⟩, .int .i64 0, .int .i64 0, .int .i64 0], .bool false]) (by simp [results, Tryz.results5, go_sem, qf0, qf1, qf2, qf3]) rfl ⟨⟨⟨#[]⟩, 0, 0, 0⟩, Lib.hid E.out.1.symm, by rw [E.out.2], hbW⟩
      · have hsome3 := date_yes hdk
        obtain ⟨nd, hnd⟩ : ∃ nd, dateV p2 = nd := ⟨_, rfl⟩
        rw [hnd] at hsome3 ⊢
        clear hnd hdk
        have hy3 := hb3.size
        replace hr0 := cell_later hb3 hr0
        replace hf0 := free_later hf0 (by simp; omega) hb3
        replace hr1 := cell_later hb3 hr1
        replace hf1 := free_later hf1 (by simp; omega) hb3
        replace hr2 := cell_later hb3 hr2
        replace hf2 := free_later hf2 (by simp; omega) hb3
        replace hr3 := cell_later hb3 hr3
        replace hf3 := free_later hf3 (by simp; omega) hb3
        replace hc0 := cell_later hb3 hc0
        replace hc1 := cell_later hb3 hc1
        replace hc2 := cell_later hb3 hc2
        replace hbF := hbF.trans (hb3.mono hbF.size)
        by_cases hkn : ms.length = 2
        rotate_left
        · have E := Lib.hid (stack_none (stackO_of (oD_wbad1 okStack_name HC.out fun ns' h => by rw [hsome] at h; cases h; exact hkn)))
          have hne : ((ms.length : Int) == 2) = false := by rw [beq_eq_false_iff_ne]; omega
          clear hsome hsome3 hkn hg2
          have HF := set_cells (w := w3) (g := w.heap.size) [.string ⟨#[]⟩, .int .i64 0, .int .i64 0, .int .i64 0] 0 (fun j hj => by
            match j, hj with
            | 0, _ => exact ⟨_, hr0⟩
            | 1, _ => exact ⟨_, hr1⟩
            | 2, _ => exact ⟨_, hr2⟩
            | 3, _ => exact ⟨_, hr3⟩)
          have hbW := below_setCells (Nat.le_refl w.heap.size) [.string ⟨#[]⟩, .int .i64 0, .int .i64 0, .int .i64 0] 0 hbF
          go_wp2
          change bodyPost _ _ _ _ _ (w3.setCells w.heap.size 0 [.string ⟨#[]⟩, .int .i64 0, .int .i64 0, .int .i64 0])
          generalize w3.setCells w.heap.size 0 [.string ⟨#[]⟩, .int .i64 0, .int .i64 0, .int .i64 0] = Wf at *
          have qf0 := HF 0 _ rfl
          have qf1 := HF 1 _ rfl
          have qf2 := HF 2 _ rfl
          have qf3 := HF 3 _ rfl
          simp only [Nat.zero_add] at qf0 qf1 qf2 qf3
          exact bodyPost_ret (v := .tuple #[.agg #[.string ⟨#[]⟩, .int .i64 0, .int .i64 0, .int .i64 0], .bool false]) (by simp [results, Tryz.results5, go_sem, qf0, qf1, qf2, qf3]) rfl ⟨⟨⟨#[]⟩, 0, 0, 0⟩, Lib.hid E.out.1.symm, by rw [E.out.2], hbW⟩
        · obtain ⟨n0, n1, hns⟩ : ∃ n0 n1, ms = [n0, n1] := by
            match ms, hkn with
            | [n0, n1], _ => exact ⟨n0, n1, rfl⟩
          subst hns
          have HO := Lib.hid (oD_text okStack_name HC.out hsome hsome3)
          have hm := dateI_some hsome3
          obtain ⟨g, rfl, hg1, hgg, hcs⟩ := (hg2.below hb3).ints (by simp)
          have hn0 := hcs 0 _ rfl
          have hn1 := hcs 1 _ rfl
          have hbb3 : b < w3.heap.size := by omega
          have hka : ∀ o, (w3.alloc o).drew.cell? ⟨b, off, none⟩ = some (.string p0) := fun o => (World.cell?_alloc_lt w3 o _ hbb3).trans hc0
          have hk0 : ∀ o, (w3.alloc o).drew.cell? ⟨g, 0, none⟩ = some (.int .i64 n0) := fun o => (World.cell?_alloc_lt w3 o _ hgg).trans hn0
          have hk1 : ∀ o, (w3.alloc o).drew.cell? ⟨g, 1, none⟩ = some (.int .i64 n1) := fun o => (World.cell?_alloc_lt w3 o _ hgg).trans hn1
          clear hcs hg2 hsome hsome3 hkn
          go_wp2_with fail
          go_region_held3 (fun w' => w'.cell? ⟨b, off, none⟩ = some (.string p0) ∧ w'.cell? ⟨g, 0, none⟩ = some (.int .i64 n0) ∧ w'.cell? ⟨g, 1, none⟩ = some (.int .i64 n1)) (first | exact ⟨hc0, hn0, hn1⟩ | exact ⟨hka _, hk0 _, hk1 _⟩) (first | fail)
          have hbx : Below w3.heap.size w3 (w3.alloc (.cells #[.string p0, .int .i64 n0, .int .i64 n1, .int .i64 nd] 23)).drew := ((Below.refl _ _).alloc (Nat.le_refl _) _).drew
          have hxR : (w3.alloc (.cells #[.string p0, .int .i64 n0, .int .i64 n1, .int .i64 nd] 23)).drew.rangeAt w3.heap.size 0 [.string p0, .int .i64 n0, .int .i64 n1, .int .i64 nd] := range_new w3 #[.string p0, .int .i64 n0, .int .i64 n1, .int .i64 nd] 23
          obtain ⟨W2, hW2⟩ : ∃ W, (w3.alloc (.cells #[.string p0, .int .i64 n0, .int .i64 n1, .int .i64 nd] 23)).drew = W := ⟨_, rfl⟩
          rw [hW2] at hbx hxR
          replace hr0 := cell_later hbx hr0
          replace hf0 := free_later hf0 (by simp; omega) hbx
          replace hr1 := cell_later hbx hr1
          replace hf1 := free_later hf1 (by simp; omega) hbx
          replace hr2 := cell_later hbx hr2
          replace hf2 := free_later hf2 (by simp; omega) hbx
          replace hr3 := cell_later hbx hr3
          replace hf3 := free_later hf3 (by simp; omega) hbx
          replace hbF := hbF.trans (hbx.mono hbF.size)
          have hzz := hbx.size
          have hy0 := hxR 0 _ rfl
          have hy1 := hxR 1 _ rfl
          have hy2 := hxR 2 _ rfl
          have hy3 := hxR 3 _ rfl
          simp only [Nat.zero_add] at hy0 hy1 hy2 hy3
          clear hc0 hc1 hc2 hka hn0 hn1 hk0 hk1 hbx
          rename_i hheld; clear hheld
          go_wp2_with fail
          try rw [hW2]
          clear hW2
          obtain ⟨U, hU⟩ : ∃ U, stackText ⟨p0, n0, n1, nd⟩ = U := ⟨_, rfl⟩
          have hcall := i_StackText ⟨p0, n0, n1, nd⟩ W2 (by show p0.size ≤ _; omega) (hL.below hbF)
          rw [hU] at hcall
          have HU := Lib.hid hU; clear hU
          refine hcall.mono ?_
          rintro e w4 ⟨rfl, hb4⟩
          clear hcall
          replace hr0 := cell_later hb4 hr0
          replace hf0 := free_later hf0 (by simp; omega) hb4
          replace hr1 := cell_later hb4 hr1
          replace hf1 := free_later hf1 (by simp; omega) hb4
          replace hr2 := cell_later hb4 hr2
          replace hf2 := free_later hf2 (by simp; omega) hb4
          replace hr3 := cell_later hb4 hr3
          replace hf3 := free_later hf3 (by simp; omega) hb4
          replace hy0 := cell_later hb4 hy0
          replace hy1 := cell_later hb4 hy1
          replace hy2 := cell_later hb4 hy2
          replace hy3 := cell_later hb4 hy3
          replace hbF := hbF.trans (hb4.mono hbF.size)
          clear hxR
          by_cases hq : U.data.toList = s.data.toList
          · have hO : oD okStack4 s = some (p0, n0, n1, nd) := by rw [HO.out, if_pos (by have := HU.out; unfold stackText at this; rw [this]; exact hq)]
            have E := Lib.hid (stack_some (stackO_is hO))
            have ht : (U.toList == s.toList) = true := by rw [ByteArray.toList_eq, ByteArray.toList_eq, hq]; simp
            clear hq hO
            have HF := set_cells (w := w4) (g := w.heap.size) [.string p0, .int .i64 n0, .int .i64 n1, .int .i64 nd] 0 (fun j hj => by
              match j, hj with
              | 0, _ => exact ⟨_, hr0⟩
              | 1, _ => exact ⟨_, hr1⟩
              | 2, _ => exact ⟨_, hr2⟩
              | 3, _ => exact ⟨_, hr3⟩)
            have hbW := below_setCells (Nat.le_refl w.heap.size) [.string p0, .int .i64 n0, .int .i64 n1, .int .i64 nd] 0 hbF
            go_wp2
            change bodyPost _ _ _ _ _ (w4.setCells w.heap.size 0 [.string p0, .int .i64 n0, .int .i64 n1, .int .i64 nd])
            generalize w4.setCells w.heap.size 0 [.string p0, .int .i64 n0, .int .i64 n1, .int .i64 nd] = Wf at *
            have qf0 := HF 0 _ rfl
            have qf1 := HF 1 _ rfl
            have qf2 := HF 2 _ rfl
            have qf3 := HF 3 _ rfl
            simp only [Nat.zero_add] at qf0 qf1 qf2 qf3
            exact bodyPost_ret (v := .tuple #[.agg #[.string p0, .int .i64 n0, .int .i64 n1, .int .i64 nd], .bool true]) (by simp [results, Tryz.results5, go_sem, qf0, qf1, qf2, qf3]) rfl ⟨⟨p0, n0, n1, nd⟩, Lib.hid E.out.1.symm, by rw [E.out.2], hbW⟩
          · have E := Lib.hid (stack_none (stackO_of (by rw [HO.out, if_neg (by have := HU.out; unfold stackText at this; rw [this]; exact hq)])))
            have ht : (U.toList == s.toList) = false := by rw [ByteArray.toList_eq, ByteArray.toList_eq, beq_eq_false_iff_ne]; exact hq
            clear hq
            have HF := set_cells (w := w4) (g := w.heap.size) [.string ⟨#[]⟩, .int .i64 0, .int .i64 0, .int .i64 0] 0 (fun j hj => by
              match j, hj with
              | 0, _ => exact ⟨_, hr0⟩
              | 1, _ => exact ⟨_, hr1⟩
              | 2, _ => exact ⟨_, hr2⟩
              | 3, _ => exact ⟨_, hr3⟩)
            have hbW := below_setCells (Nat.le_refl w.heap.size) [.string ⟨#[]⟩, .int .i64 0, .int .i64 0, .int .i64 0] 0 hbF
            go_wp2
            change bodyPost _ _ _ _ _ (w4.setCells w.heap.size 0 [.string ⟨#[]⟩, .int .i64 0, .int .i64 0, .int .i64 0])
            generalize w4.setCells w.heap.size 0 [.string ⟨#[]⟩, .int .i64 0, .int .i64 0, .int .i64 0] = Wf at *
            have qf0 := HF 0 _ rfl
            have qf1 := HF 1 _ rfl
            have qf2 := HF 2 _ rfl
            have qf3 := HF 3 _ rfl
            simp only [Nat.zero_add] at qf0 qf1 qf2 qf3
            exact bodyPost_ret (v := .tuple #[.agg #[.string ⟨#[]⟩, .int .i64 0, .int .i64 0, .int .i64 0], .bool false]) (by simp [results, Tryz.results5, go_sem, qf0, qf1, qf2, qf3]) rfl ⟨⟨⟨#[]⟩, 0, 0, 0⟩, Lib.hid E.out.1.symm, by rw [E.out.2], hbW⟩
  · have E := Lib.hid (stack_none (stackO_of (oD_wlen (s := s) okStack_name (by rw [hl]; exact h3))))
    have hne : ((n : Int) == 3) = false := by rw [beq_eq_false_iff_ne]; omega
    clear hl hgl h3
    have HF := set_cells (w := w1) (g := w.heap.size) [.string ⟨#[]⟩, .int .i64 0, .int .i64 0, .int .i64 0] 0 (fun j hj => by
      match j, hj with
      | 0, _ => exact ⟨_, hr0⟩
      | 1, _ => exact ⟨_, hr1⟩
      | 2, _ => exact ⟨_, hr2⟩
      | 3, _ => exact ⟨_, hr3⟩)
    have hbW := below_setCells (Nat.le_refl w.heap.size) [.string ⟨#[]⟩, .int .i64 0, .int .i64 0, .int .i64 0] 0 hbF
    go_wp2
    change bodyPost _ _ _ _ _ (w1.setCells w.heap.size 0 [.string ⟨#[]⟩, .int .i64 0, .int .i64 0, .int .i64 0])
    generalize w1.setCells w.heap.size 0 [.string ⟨#[]⟩, .int .i64 0, .int .i64 0, .int .i64 0] = Wf at *
    have qf0 := HF 0 _ rfl
    have qf1 := HF 1 _ rfl
    have qf2 := HF 2 _ rfl
    have qf3 := HF 3 _ rfl
    simp only [Nat.zero_add] at qf0 qf1 qf2 qf3
    exact bodyPost_ret (v := .tuple #[.agg #[.string ⟨#[]⟩, .int .i64 0, .int .i64 0, .int .i64 0], .bool false]) (by simp [results, Tryz.results5, go_sem, qf0, qf1, qf2, qf3]) rfl ⟨⟨⟨#[]⟩, 0, 0, 0⟩, Lib.hid E.out.1.symm, by rw [E.out.2], hbW⟩

end Go.Proofs.YtdkpgcnjlamcbaaGreatDoor
