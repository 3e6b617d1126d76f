/- A list of blocks with another one. -/
import Derived.Test.YtnbeomceiealdaaDoorRows
import Derived.Test.YtnbeomceiealdaaDoorFind
import Derived.Test.YtnbeomceiealdaaDoorSlBlock
namespace Go.Proofs.YtnbeomceiealdaaDoor
set_option linter.unusedVariables false
set_option linter.unusedSimpArgs false
set_option linter.unusedSectionVars false
open Go.RowKit
set_option maxRecDepth 100000

def pOf (l : List DBlock) (b : DBlock) : Nat := posOf l (keyOf b.fKind b.fName)
def fOf (l : List DBlock) (b : DBlock) : Bool := foundB l (keyOf b.fKind b.fName) (posOf l (keyOf b.fKind b.fName))
def qOf (l : List DBlock) (b : DBlock) : Nat := if fOf l b then pOf l b + 1 else pOf l b
def insB (l : List DBlock) (b : DBlock) : List DBlock := l.take (pOf l b) ++ [b] ++ l.drop (qOf l b)
def preB (l : List DBlock) (b : DBlock) (k : Nat) : List DBlock := if k ≤ pOf l b then l.take k else l.take (pOf l b) ++ [b] ++ (l.take k).drop (qOf l b)
theorem qOf_le (l : List DBlock) (b : DBlock) : qOf l b ≤ pOf l b + 1 := by unfold qOf; split <;> omega
theorem pre_lt {l : List DBlock} {b x : DBlock} {k : Nat} (hx : l[k]? = some x) (h : k < pOf l b) : preB l b (k + 1) = preB l b k ++ [x] := by
  unfold preB; rw [if_pos (by omega), if_pos (by omega), take_of_get hx]
theorem pre_found {l : List DBlock} {b x : DBlock} {k : Nat} (hx : l[k]? = some x) (h : k = pOf l b) (hf : fOf l b = true) : preB l b (k + 1) = preB l b k ++ [b] := by
  have hq : qOf l b = k + 1 := by unfold qOf; rw [hf, h]; rfl
  unfold preB; rw [if_neg (by omega), if_pos (by omega), hq, ← h, List.drop_of_length_le (by simp; omega), List.append_nil]
theorem pre_new {l : List DBlock} {b x : DBlock} {k : Nat} (hx : l[k]? = some x) (h : k = pOf l b) (hf : fOf l b = false) : preB l b (k + 1) = preB l b k ++ [b] ++ [x] := by
  have hq : qOf l b = k := by unfold qOf; rw [hf, h]; rfl
  have hl : (l.take k).length = k := by have := (List.getElem?_eq_some_iff.1 hx).1; rw [List.length_take]; omega
  unfold preB; rw [if_neg (by omega), if_pos (by omega), hq, ← h, take_of_get hx, List.drop_append, List.drop_of_length_le (Nat.le_of_eq hl), hl, Nat.sub_self]; rfl
theorem pre_gt {l : List DBlock} {b x : DBlock} {k : Nat} (hx : l[k]? = some x) (h : pOf l b < k) : preB l b (k + 1) = preB l b k ++ [x] := by
  have hq := qOf_le l b
  have hl : (l.take k).length = k := by have := (List.getElem?_eq_some_iff.1 hx).1; rw [List.length_take]; omega
  unfold preB; rw [if_neg (by omega), if_neg (by omega), take_of_get hx, List.drop_append_of_le_length (by omega), List.append_assoc, List.append_assoc, List.append_assoc]
theorem pre_end {l : List DBlock} {b : DBlock} (h : pOf l b < l.length) : preB l b l.length = insB l b := by
  unfold preB insB; rw [if_neg (by omega), List.take_length]
theorem pre_last {l : List DBlock} {b : DBlock} (h : ¬ pOf l b < l.length) : preB l b l.length ++ [b] = insB l b := by
  have hq : pOf l b ≤ qOf l b := by unfold qOf; split <;> omega
  unfold preB insB; rw [if_pos (by omega), List.take_length, List.take_of_length_le (by omega), List.drop_of_length_le (by omega), List.append_nil]
/-- where x at place k stands to b -/
theorem put_lt {l : List DBlock} {b x : DBlock} {k : Nat} (hs : SortedBl l) (hx : l[k]? = some x) (h : k < pOf l b) : decide (cmpBl x b < 0) = true ∧ isAt x b.fKind b.fName = false := by
  have h1 := (hs.parts (keyOf b.fKind b.fName)).lo k x h hx
  exact ⟨decide_eq_true h1, decide_eq_false (by omega)⟩
theorem put_eq {l : List DBlock} {b x : DBlock} {k : Nat} (hs : SortedBl l) (hx : l[k]? = some x) (h : k = pOf l b) : decide (cmpBl x b < 0) = false ∧ isAt x b.fKind b.fName = fOf l b := by
  have h1 := (hs.parts (keyOf b.fKind b.fName)).hi k x (Nat.le_of_eq h.symm) hx
  refine ⟨decide_eq_false h1, ?_⟩
  unfold fOf foundB isAt
  unfold pOf at h
  rw [← h, hx]
theorem put_gt {l : List DBlock} {b x : DBlock} {k : Nat} (hs : SortedBl l) (hx : l[k]? = some x) (h : pOf l b < k) : isAt x b.fKind b.fName = false := by
  unfold isAt
  refine decide_eq_false fun h0 => ?_
  have := (hs.at hx h0).1
  unfold pOf at h
  omega

theorem s_l29Before2 (b off b' off' : Nat) (x y : DBlock) (w : World) (hc : w.rangeAt b off (blockE.cells x)) (hd : w.rangeAt b' off' (blockE.cells y)) (r : Bool) (hr : decide (cmpBl x y < 0) = r) :
    Calls Tryd.prog 37 #[.pointer (some ⟨b, off, none⟩), .pointer (some ⟨b', off', none⟩)] w fun e w' => e = .returned (.bool r) ∧ Below w.heap.size w w' := by
  subst hr
  refine (s_l29Before b off b' off' x y w hc hd).mono ?_
  rintro e w' ⟨rfl, m, rfl⟩
  exact ⟨rfl, below_drewN (Below.refl _ _) _⟩
set_option maxHeartbeats 4000000 in
theorem s_l29Put (A : Option Addr) (n c : Nat) (l : List DBlock) (b : DBlock) (w : World) (hr : Rd blockE w A n l) (hn : n ≤ 4194300) (hs : SortedBl l) :
    Calls Tryd.prog 33 #[.slice A n c, .agg #[.string b.fKind, .string b.fName, .string b.fText]] w (RetL blockE 42 (insB l b) w) := by
  obtain ⟨i0, hi, hz0, hz1, hz2⟩ := info_parts Tryd.inf_Block
  have Hl := Lib.hid hr.1
  have HS := Lib.hid hs; clear hs
  obtain ⟨W0, hW0⟩ : ∃ W0, w.alloc (.cells #[.string b.fKind, .string b.fName, .string b.fText] 42) = W0 := ⟨_, rfl⟩
  have hR : W0.rangeAt w.heap.size 0 (blockE.cells b) := by rw [← hW0]; exact range_new w _ _
  have hbw : Below w.heap.size w W0 := by rw [← hW0]; (repeat (first | exact Below.refl _ _ | assumption | refine Below.drew ?_ | refine Below.alloc ?_ (by first | omega | (simp; done) | (simp; omega) | exact Below.size (by assumption)) _ | refine Below.setCell ?_ (by first | omega | (simp; done) | (simp; omega)) _))
  have hsz : W0.heap.size = w.heap.size + 1 := by rw [← hW0]; simp
  have hgl0 : GL blockE 42 W0.heap.size (W0.alloc (.cells #[] 42)) (.slice (some ⟨w.heap.size + 1, 0, none⟩) 0 0) [] := by
    have := GL.mk0 (E := blockE) (et := 42) (w := W0) (base := W0.heap.size) (Nat.le_refl _)
    rwa [hsz] at this ⊢
  have hb0 : Below W0.heap.size W0 (W0.alloc (.cells #[] 42)) := (Below.refl _ _).alloc (Nat.le_refl _) _
  have hrW := hr.below hbw
  go_enter Tryd.func33, Tryd.ntmps33
  go_wp2_with fail
  try rw [hW0]
  clear hW0
  go_loopw [7, 5, 6] (fun i v d wr => ∃ (k : Nat) (r : List DBlock) (A' : Option Addr) (c' : Nat), k ≤ n ∧ i = .int .i64 k ∧ Below W0.heap.size W0 wr ∧ v = .slice A' r.length c' ∧ GL blockE 42 W0.heap.size wr (.slice A' r.length c') r ∧ r.length ≤ k + 1 ∧ d = .bool (decide (pOf l b < k)) ∧ Hid (r = preB l b k)) (fun i _ _ _ => n - (intOf i).toNat)
  case atStart => exact ⟨0, [], _, _, Nat.zero_le _, rfl, hb0, rfl, hgl0, by simp, by simp, Lib.hid (by unfold preB; simp)⟩
  case round =>
    obtain ⟨k, r, A', c', hk, rfl, hb, rfl, hgl, hrk, rfl, HH⟩ := hrel
    have hbs := hb.size
    have hls := (Lib.hid hsz)
    by_cases hlt : k < n
    · obtain ⟨bk, off, rfl, hcs⟩ := hrW.2 (by omega)
      obtain ⟨x, hx⟩ : ∃ x, l[k]? = some x := ⟨_, List.getElem?_eq_getElem (by have := Hl.out; omega)⟩
      have HC0 : Hid (W0.rangeAt bk (off + k * 3) (blockE.cells x)) := Lib.hid (hcs k x hx)
      have HX := Lib.hid hx
      clear hcs hx
      rcases Nat.lt_trichotomy k (pOf l b) with h | h | h
      · obtain ⟨hbe, hat⟩ := put_lt HS.out HX.out h
        rw [isAt_eq] at hat
        have hd : decide (pOf l b < k) = false := decide_eq_false (by omega)
        have HP : Hid (r ++ [x] = preB l b (k + 1)) := Lib.hid (by rw [pre_lt HX.out h, HH.out])
        rw [hd]
        have HR := Lib.hid (range_below (B := 0) hR hb)
        have HC := Lib.hid (range_below (B := 0) HC0.out hb)
        have hy0 := HR.out 0 (.string b.fKind) rfl
        have hy1 := HR.out 1 (.string b.fName) rfl
        have hy2 := HR.out 2 (.string b.fText) rfl
        have hc0 := HC.out 0 (.string x.fKind) rfl
        have hc1 := HC.out 1 (.string x.fName) rfl
        have hc2 := HC.out 2 (.string x.fText) rfl
        simp only [blockE, Nat.add_zero, Nat.zero_add] at hy0 hy1 hy2 hc0 hc1 hc2
        go_wp2_with fail
        refine (s_l29Before2 bk _ w.heap.size 0 x b _ HC.out HR.out true hbe).mono ?_
        rintro e w1 ⟨rfl, hb1⟩
        have hbn := hb.trans (hb1.mono hb.size)
        have hgl1 := hgl.below hb1
        clear hy0 hy1 hy2 hc0 hc1 hc2 HR HC
        clear hb1
        have HRn := Lib.hid (range_below (B := 0) hR hbn)
        have HCn := Lib.hid (range_below (B := 0) HC0.out hbn)
        have hy0n := HRn.out 0 (.string b.fKind) rfl
        have hy1n := HRn.out 1 (.string b.fName) rfl
        have hy2n := HRn.out 2 (.string b.fText) rfl
        have hc0n := HCn.out 0 (.string x.fKind) rfl
        have hc1n := HCn.out 1 (.string x.fName) rfl
        have hc2n := HCn.out 2 (.string x.fText) rfl
        simp only [blockE, Nat.add_zero, Nat.zero_add] at hy0n hy1n hy2n hc0n hc1n hc2n
        rcases h1 : x.fKind.toList == b.fKind.toList with _ | _
        · have hk1 : (x.fKind.toList != b.fKind.toList) = true := by unfold bne; rw [h1]; rfl
          go_wp2_with fail
          go_quiet (fail)
          generalize hwq : World.drewN w1 _ = wq
          have hbd : Below w1.heap.size w1 wq := by rw [← hwq]; exact below_drewN (Below.refl _ _) _
          have hbq := hbn.trans (hbd.mono hbn.size)
          have hglq := hgl1.below hbd
          clear hy0n hy1n hy2n hc0n hc1n hc2n HRn HCn
          clear hwq hbd
          have HRq := Lib.hid (range_below (B := 0) hR hbq)
          have HCq := Lib.hid (range_below (B := 0) HC0.out hbq)
          have hy0q := HRq.out 0 (.string b.fKind) rfl
          have hy1q := HRq.out 1 (.string b.fName) rfl
          have hy2q := HRq.out 2 (.string b.fText) rfl
          have hc0q := HCq.out 0 (.string x.fKind) rfl
          have hc1q := HCq.out 1 (.string x.fName) rfl
          have hc2q := HCq.out 2 (.string x.fText) rfl
          simp only [blockE, Nat.add_zero, Nat.zero_add] at hy0q hy1q hy2q hc0q hc1q hc2q
          go_wp2_with (at_builtin; refine wpList_push blockE rfl (.tmp 46) (.tmp 51) 26 rfl W0.heap.size 42 i0 _ 48 Tryd.underlying26 hi hz0 hz1 hz2 rfl (.slice A' r.length c') r x rfl (hglq.alloc _) _ rfl (range_new' _ _ _ (by first | rfl | simp)) (by first | omega | (simp; omega)) (by decide) W0 (hbq.alloc (by first | exact hbq.size | omega) _) (by simp; have := hbq.size; omega) ?_; intro A2 c2 w2 hgl2 hb2 hs2)
          first | (refine ⟨⟨k + 1, r ++ [x], A2, c2, by omega, by go_num, hb2, by simp, by simpa using hgl2, by simp; omega, by rw [decide_eq_false (by omega)], HP⟩, ?_⟩; (simp [intOf]; omega)) | (go_roundw; (case rel => first | exact ⟨k + 1, r ++ [x], A2, c2, by omega, by go_num, hb2, by simp, by simpa using hgl2, by simp; omega, by rw [decide_eq_false (by omega)], HP⟩ | ((try refine ⟨trivial, ?_⟩); (repeat apply Exists.intro); exact ⟨⟨k + 1, r ++ [x], A2, c2, by omega, by go_num, hb2, by simp, by simpa using hgl2, by simp; omega, by rw [decide_eq_false (by omega)], HP⟩, rfl⟩)); (case measure => (simp [intOf]; omega)))
        · have hk1 : (x.fKind.toList != b.fKind.toList) = false := by unfold bne; rw [h1]; rfl
          have h2 : (x.fName.toList == b.fName.toList) = false := by rw [h1, Bool.true_and] at hat; exact hat
          have hk2 : (x.fName.toList != b.fName.toList) = true := by unfold bne; rw [h2]; rfl
          go_wp2_with fail
          go_quiet (fail)
          generalize hwq : World.drewN w1 _ = wq
          have hbd : Below w1.heap.size w1 wq := by rw [← hwq]; exact below_drewN (Below.refl _ _) _
          have hbq := hbn.trans (hbd.mono hbn.size)
          have hglq := hgl1.below hbd
          clear hy0n hy1n hy2n hc0n hc1n hc2n HRn HCn
          clear hwq hbd
          have HRq := Lib.hid (range_below (B := 0) hR hbq)
          have HCq := Lib.hid (range_below (B := 0) HC0.out hbq)
          have hy0q := HRq.out 0 (.string b.fKind) rfl
          have hy1q := HRq.out 1 (.string b.fName) rfl
          have hy2q := HRq.out 2 (.string b.fText) rfl
          have hc0q := HCq.out 0 (.string x.fKind) rfl
          have hc1q := HCq.out 1 (.string x.fName) rfl
          have hc2q := HCq.out 2 (.string x.fText) rfl
          simp only [blockE, Nat.add_zero, Nat.zero_add] at hy0q hy1q hy2q hc0q hc1q hc2q
          go_wp2_with (at_builtin; refine wpList_push blockE rfl (.tmp 46) (.tmp 51) 26 rfl W0.heap.size 42 i0 _ 48 Tryd.underlying26 hi hz0 hz1 hz2 rfl (.slice A' r.length c') r x rfl (hglq.alloc _) _ rfl (range_new' _ _ _ (by first | rfl | simp)) (by first | omega | (simp; omega)) (by decide) W0 (hbq.alloc (by first | exact hbq.size | omega) _) (by simp; have := hbq.size; omega) ?_; intro A2 c2 w2 hgl2 hb2 hs2)
          first | (refine ⟨⟨k + 1, r ++ [x], A2, c2, by omega, by go_num, hb2, by simp, by simpa using hgl2, by simp; omega, by rw [decide_eq_false (by omega)], HP⟩, ?_⟩; (simp [intOf]; omega)) | (go_roundw; (case rel => first | exact ⟨k + 1, r ++ [x], A2, c2, by omega, by go_num, hb2, by simp, by simpa using hgl2, by simp; omega, by rw [decide_eq_false (by omega)], HP⟩ | ((try refine ⟨trivial, ?_⟩); (repeat apply Exists.intro); exact ⟨⟨k + 1, r ++ [x], A2, c2, by omega, by go_num, hb2, by simp, by simpa using hgl2, by simp; omega, by rw [decide_eq_false (by omega)], HP⟩, rfl⟩)); (case measure => (simp [intOf]; omega)))
      · obtain ⟨hbe, hat⟩ := put_eq HS.out HX.out h
        rw [isAt_eq] at hat
        have hd : decide (pOf l b < k) = false := decide_eq_false (by omega)
        replace hrk : r.length ≤ k := by rw [HH.out]; unfold preB; rw [if_pos (by omega), List.length_take]; omega
        have hdd : Hid (decide (pOf l b < k + 1) = true) := Lib.hid (decide_eq_true (by omega))
        have HK := Lib.hid h
        clear h
        rw [hd]
        have HR := Lib.hid (range_below (B := 0) hR hb)
        have HC := Lib.hid (range_below (B := 0) HC0.out hb)
        have hy0 := HR.out 0 (.string b.fKind) rfl
        have hy1 := HR.out 1 (.string b.fName) rfl
        have hy2 := HR.out 2 (.string b.fText) rfl
        have hc0 := HC.out 0 (.string x.fKind) rfl
        have hc1 := HC.out 1 (.string x.fName) rfl
        have hc2 := HC.out 2 (.string x.fText) rfl
        simp only [blockE, Nat.add_zero, Nat.zero_add] at hy0 hy1 hy2 hc0 hc1 hc2
        go_wp2_with fail
        refine (s_l29Before2 bk _ w.heap.size 0 x b _ HC.out HR.out false hbe).mono ?_
        rintro e w1 ⟨rfl, hb1⟩
        have hbn := hb.trans (hb1.mono hb.size)
        have hgl1 := hgl.below hb1
        clear hy0 hy1 hy2 hc0 hc1 hc2 HR HC
        clear hb1
        have HRn := Lib.hid (range_below (B := 0) hR hbn)
        have HCn := Lib.hid (range_below (B := 0) HC0.out hbn)
        have hy0n := HRn.out 0 (.string b.fKind) rfl
        have hy1n := HRn.out 1 (.string b.fName) rfl
        have hy2n := HRn.out 2 (.string b.fText) rfl
        have hc0n := HCn.out 0 (.string x.fKind) rfl
        have hc1n := HCn.out 1 (.string x.fName) rfl
        have hc2n := HCn.out 2 (.string x.fText) rfl
        simp only [blockE, Nat.add_zero, Nat.zero_add] at hy0n hy1n hy2n hc0n hc1n hc2n
        rcases hf : fOf l b with _ | _
        · rw [hf] at hat
          have HP : Hid (r ++ [b] ++ [x] = preB l b (k + 1)) := Lib.hid (by rw [pre_new HX.out HK.out hf, HH.out])
          rcases h1 : x.fKind.toList == b.fKind.toList with _ | _
          · have hk1 : (x.fKind.toList != b.fKind.toList) = true := by unfold bne; rw [h1]; rfl
            go_wp2_with (at_builtin; refine wpList_push blockE rfl (.tmp 24) (.tmp 26) 26 rfl W0.heap.size 42 i0 _ 48 Tryd.underlying26 hi hz0 hz1 hz2 rfl (.slice A' r.length c') r b rfl (hgl1.alloc _) _ rfl (range_new' _ _ _ (by first | rfl | simp)) (by first | omega | (simp; omega)) (by decide) W0 (hbn.alloc (by first | exact hbn.size | omega) _) (by simp; have := hbn.size; omega) ?_; intro A3 c3 w3 hgl3 hb3 hs3)
            clear hy0n hy1n hy2n hc0n hc1n hc2n HRn HCn
            have HRm := Lib.hid (range_below (B := 0) hR hb3)
            have HCm := Lib.hid (range_below (B := 0) HC0.out hb3)
            have hy0m := HRm.out 0 (.string b.fKind) rfl
            have hy1m := HRm.out 1 (.string b.fName) rfl
            have hy2m := HRm.out 2 (.string b.fText) rfl
            have hc0m := HCm.out 0 (.string x.fKind) rfl
            have hc1m := HCm.out 1 (.string x.fName) rfl
            have hc2m := HCm.out 2 (.string x.fText) rfl
            simp only [blockE, Nat.add_zero, Nat.zero_add] at hy0m hy1m hy2m hc0m hc1m hc2m
            go_wp2_with fail
            go_quiet (fail)
            generalize hwq : World.drewN w3 _ = wq
            have hbd : Below w3.heap.size w3 wq := by rw [← hwq]; exact below_drewN (Below.refl _ _) _
            have hbq := hb3.trans (hbd.mono hb3.size)
            have hglq := hgl3.below hbd
            clear hy0m hy1m hy2m hc0m hc1m hc2m HRm HCm
            clear hwq hbd
            have HRq := Lib.hid (range_below (B := 0) hR hbq)
            have HCq := Lib.hid (range_below (B := 0) HC0.out hbq)
            have hy0q := HRq.out 0 (.string b.fKind) rfl
            have hy1q := HRq.out 1 (.string b.fName) rfl
            have hy2q := HRq.out 2 (.string b.fText) rfl
            have hc0q := HCq.out 0 (.string x.fKind) rfl
            have hc1q := HCq.out 1 (.string x.fName) rfl
            have hc2q := HCq.out 2 (.string x.fText) rfl
            simp only [blockE, Nat.add_zero, Nat.zero_add] at hy0q hy1q hy2q hc0q hc1q hc2q
            go_wp2_with (at_builtin; refine wpList_push blockE rfl (.tmp 46) (.tmp 51) 26 rfl W0.heap.size 42 i0 _ 48 Tryd.underlying26 hi hz0 hz1 hz2 rfl (.slice A3 (r.length + 1) c3) (r ++ [b]) x rfl (hglq.alloc _) _ rfl (range_new' _ _ _ (by first | rfl | simp)) (by first | omega | (simp; omega)) (by decide) W0 (hbq.alloc (by first | exact hbq.size | omega) _) (by simp; have := hbq.size; omega) ?_; intro A2 c2 w2 hgl2 hb2 hs2)
            first | (refine ⟨⟨k + 1, r ++ [b] ++ [x], A2, c2, by omega, by go_num, hb2, by simp, by simpa using hgl2, by simp; omega, by rw [hdd.out], HP⟩, ?_⟩; (simp [intOf]; omega)) | (go_roundw; (case rel => first | exact ⟨k + 1, r ++ [b] ++ [x], A2, c2, by omega, by go_num, hb2, by simp, by simpa using hgl2, by simp; omega, by rw [hdd.out], HP⟩ | ((try refine ⟨trivial, ?_⟩); (repeat apply Exists.intro); exact ⟨⟨k + 1, r ++ [b] ++ [x], A2, c2, by omega, by go_num, hb2, by simp, by simpa using hgl2, by simp; omega, by rw [hdd.out], HP⟩, rfl⟩)); (case measure => (simp [intOf]; omega)))
          · have hk1 : (x.fKind.toList != b.fKind.toList) = false := by unfold bne; rw [h1]; rfl
            have h2 : (x.fName.toList == b.fName.toList) = false := by rw [h1, Bool.true_and] at hat; exact hat
            have hk2 : (x.fName.toList != b.fName.toList) = true := by unfold bne; rw [h2]; rfl
            go_wp2_with (at_builtin; refine wpList_push blockE rfl (.tmp 24) (.tmp 26) 26 rfl W0.heap.size 42 i0 _ 48 Tryd.underlying26 hi hz0 hz1 hz2 rfl (.slice A' r.length c') r b rfl (hgl1.alloc _) _ rfl (range_new' _ _ _ (by first | rfl | simp)) (by first | omega | (simp; omega)) (by decide) W0 (hbn.alloc (by first | exact hbn.size | omega) _) (by simp; have := hbn.size; omega) ?_; intro A3 c3 w3 hgl3 hb3 hs3)
            clear hy0n hy1n hy2n hc0n hc1n hc2n HRn HCn
            have HRm := Lib.hid (range_below (B := 0) hR hb3)
            have HCm := Lib.hid (range_below (B := 0) HC0.out hb3)
            have hy0m := HRm.out 0 (.string b.fKind) rfl
            have hy1m := HRm.out 1 (.string b.fName) rfl
            have hy2m := HRm.out 2 (.string b.fText) rfl
            have hc0m := HCm.out 0 (.string x.fKind) rfl
            have hc1m := HCm.out 1 (.string x.fName) rfl
            have hc2m := HCm.out 2 (.string x.fText) rfl
            simp only [blockE, Nat.add_zero, Nat.zero_add] at hy0m hy1m hy2m hc0m hc1m hc2m
            go_wp2_with fail
            go_quiet (fail)
            generalize hwq : World.drewN w3 _ = wq
            have hbd : Below w3.heap.size w3 wq := by rw [← hwq]; exact below_drewN (Below.refl _ _) _
            have hbq := hb3.trans (hbd.mono hb3.size)
            have hglq := hgl3.below hbd
            clear hy0m hy1m hy2m hc0m hc1m hc2m HRm HCm
            clear hwq hbd
            have HRq := Lib.hid (range_below (B := 0) hR hbq)
            have HCq := Lib.hid (range_below (B := 0) HC0.out hbq)
            have hy0q := HRq.out 0 (.string b.fKind) rfl
            have hy1q := HRq.out 1 (.string b.fName) rfl
            have hy2q := HRq.out 2 (.string b.fText) rfl
            have hc0q := HCq.out 0 (.string x.fKind) rfl
            have hc1q := HCq.out 1 (.string x.fName) rfl
            have hc2q := HCq.out 2 (.string x.fText) rfl
            simp only [blockE, Nat.add_zero, Nat.zero_add] at hy0q hy1q hy2q hc0q hc1q hc2q
            go_wp2_with (at_builtin; refine wpList_push blockE rfl (.tmp 46) (.tmp 51) 26 rfl W0.heap.size 42 i0 _ 48 Tryd.underlying26 hi hz0 hz1 hz2 rfl (.slice A3 (r.length + 1) c3) (r ++ [b]) x rfl (hglq.alloc _) _ rfl (range_new' _ _ _ (by first | rfl | simp)) (by first | omega | (simp; omega)) (by decide) W0 (hbq.alloc (by first | exact hbq.size | omega) _) (by simp; have := hbq.size; omega) ?_; intro A2 c2 w2 hgl2 hb2 hs2)
            first | (refine ⟨⟨k + 1, r ++ [b] ++ [x], A2, c2, by omega, by go_num, hb2, by simp, by simpa using hgl2, by simp; omega, by rw [hdd.out], HP⟩, ?_⟩; (simp [intOf]; omega)) | (go_roundw; (case rel => first | exact ⟨k + 1, r ++ [b] ++ [x], A2, c2, by omega, by go_num, hb2, by simp, by simpa using hgl2, by simp; omega, by rw [hdd.out], HP⟩ | ((try refine ⟨trivial, ?_⟩); (repeat apply Exists.intro); exact ⟨⟨k + 1, r ++ [b] ++ [x], A2, c2, by omega, by go_num, hb2, by simp, by simpa using hgl2, by simp; omega, by rw [hdd.out], HP⟩, rfl⟩)); (case measure => (simp [intOf]; omega)))
        · rw [hf] at hat
          have HP : Hid (r ++ [b] = preB l b (k + 1)) := Lib.hid (by rw [pre_found HX.out HK.out hf, HH.out])
          rw [Bool.and_eq_true] at hat
          have hk1 : (x.fKind.toList != b.fKind.toList) = false := by unfold bne; rw [hat.1]; rfl
          have hk2 : (x.fName.toList != b.fName.toList) = false := by unfold bne; rw [hat.2]; rfl
          go_wp2_with (at_builtin; refine wpList_push blockE rfl (.tmp 24) (.tmp 26) 26 rfl W0.heap.size 42 i0 _ 48 Tryd.underlying26 hi hz0 hz1 hz2 rfl (.slice A' r.length c') r b rfl (hgl1.alloc _) _ rfl (range_new' _ _ _ (by first | rfl | simp)) (by first | omega | (simp; omega)) (by decide) W0 (hbn.alloc (by first | exact hbn.size | omega) _) (by simp; have := hbn.size; omega) ?_; intro A3 c3 w3 hgl3 hb3 hs3)
          clear hy0n hy1n hy2n hc0n hc1n hc2n HRn HCn
          have HRm := Lib.hid (range_below (B := 0) hR hb3)
          have HCm := Lib.hid (range_below (B := 0) HC0.out hb3)
          have hy0m := HRm.out 0 (.string b.fKind) rfl
          have hy1m := HRm.out 1 (.string b.fName) rfl
          have hy2m := HRm.out 2 (.string b.fText) rfl
          have hc0m := HCm.out 0 (.string x.fKind) rfl
          have hc1m := HCm.out 1 (.string x.fName) rfl
          have hc2m := HCm.out 2 (.string x.fText) rfl
          simp only [blockE, Nat.add_zero, Nat.zero_add] at hy0m hy1m hy2m hc0m hc1m hc2m
          go_wp2_with fail
          go_quiet (fail)
          generalize hwq : World.drewN w3 _ = wq
          have hbd : Below w3.heap.size w3 wq := by rw [← hwq]; exact below_drewN (Below.refl _ _) _
          have hbq := hb3.trans (hbd.mono hb3.size)
          have hglq := hgl3.below hbd
          clear hy0m hy1m hy2m hc0m hc1m hc2m HRm HCm
          clear hwq hbd
          have HRq := Lib.hid (range_below (B := 0) hR hbq)
          have HCq := Lib.hid (range_below (B := 0) HC0.out hbq)
          have hy0q := HRq.out 0 (.string b.fKind) rfl
          have hy1q := HRq.out 1 (.string b.fName) rfl
          have hy2q := HRq.out 2 (.string b.fText) rfl
          have hc0q := HCq.out 0 (.string x.fKind) rfl
          have hc1q := HCq.out 1 (.string x.fName) rfl
          have hc2q := HCq.out 2 (.string x.fText) rfl
          simp only [blockE, Nat.add_zero, Nat.zero_add] at hy0q hy1q hy2q hc0q hc1q hc2q
          go_wp2
          first | (refine ⟨⟨k + 1, r ++ [b], A3, c3, by omega, by go_num, hbq, by simp, by simpa using hglq, by simp; omega, by rw [hdd.out], HP⟩, ?_⟩; (simp [intOf]; omega)) | (go_roundw; (case rel => first | exact ⟨k + 1, r ++ [b], A3, c3, by omega, by go_num, hbq, by simp, by simpa using hglq, by simp; omega, by rw [hdd.out], HP⟩ | ((try refine ⟨trivial, ?_⟩); (repeat apply Exists.intro); exact ⟨⟨k + 1, r ++ [b], A3, c3, by omega, by go_num, hbq, by simp, by simpa using hglq, by simp; omega, by rw [hdd.out], HP⟩, rfl⟩)); (case measure => (simp [intOf]; omega)))
      · have hat := put_gt HS.out HX.out h
        rw [isAt_eq] at hat
        have hd : decide (pOf l b < k) = true := decide_eq_true h
        have HP : Hid (r ++ [x] = preB l b (k + 1)) := Lib.hid (by rw [pre_gt HX.out h, HH.out])
        rw [hd]
        have HR := Lib.hid (range_below (B := 0) hR hb)
        have HC := Lib.hid (range_below (B := 0) HC0.out hb)
        have hy0 := HR.out 0 (.string b.fKind) rfl
        have hy1 := HR.out 1 (.string b.fName) rfl
        have hy2 := HR.out 2 (.string b.fText) rfl
        have hc0 := HC.out 0 (.string x.fKind) rfl
        have hc1 := HC.out 1 (.string x.fName) rfl
        have hc2 := HC.out 2 (.string x.fText) rfl
        simp only [blockE, Nat.add_zero, Nat.zero_add] at hy0 hy1 hy2 hc0 hc1 hc2
        rcases h1 : x.fKind.toList == b.fKind.toList with _ | _
        · have hk1 : (x.fKind.toList != b.fKind.toList) = true := by unfold bne; rw [h1]; rfl
          go_wp2_with fail
          go_quiet (fail)
          generalize hwq : World.drewN wr _ = wq
          have hbd : Below wr.heap.size wr wq := by rw [← hwq]; exact below_drewN (Below.refl _ _) _
          have hbq := hb.trans (hbd.mono hb.size)
          have hglq := hgl.below hbd
          clear hy0 hy1 hy2 hc0 hc1 hc2 HR HC
          clear hwq hbd
          have HRq := Lib.hid (range_below (B := 0) hR hbq)
          have HCq := Lib.hid (range_below (B := 0) HC0.out hbq)
          have hy0q := HRq.out 0 (.string b.fKind) rfl
          have hy1q := HRq.out 1 (.string b.fName) rfl
          have hy2q := HRq.out 2 (.string b.fText) rfl
          have hc0q := HCq.out 0 (.string x.fKind) rfl
          have hc1q := HCq.out 1 (.string x.fName) rfl
          have hc2q := HCq.out 2 (.string x.fText) rfl
          simp only [blockE, Nat.add_zero, Nat.zero_add] at hy0q hy1q hy2q hc0q hc1q hc2q
          go_wp2_with (at_builtin; refine wpList_push blockE rfl (.tmp 46) (.tmp 51) 26 rfl W0.heap.size 42 i0 _ 48 Tryd.underlying26 hi hz0 hz1 hz2 rfl (.slice A' r.length c') r x rfl (hglq.alloc _) _ rfl (range_new' _ _ _ (by first | rfl | simp)) (by first | omega | (simp; omega)) (by decide) W0 (hbq.alloc (by first | exact hbq.size | omega) _) (by simp; have := hbq.size; omega) ?_; intro A2 c2 w2 hgl2 hb2 hs2)
          first | (refine ⟨⟨k + 1, r ++ [x], A2, c2, by omega, by go_num, hb2, by simp, by simpa using hgl2, by simp; omega, by rw [decide_eq_true (by omega)], HP⟩, ?_⟩; (simp [intOf]; omega)) | (go_roundw; (case rel => first | exact ⟨k + 1, r ++ [x], A2, c2, by omega, by go_num, hb2, by simp, by simpa using hgl2, by simp; omega, by rw [decide_eq_true (by omega)], HP⟩ | ((try refine ⟨trivial, ?_⟩); (repeat apply Exists.intro); exact ⟨⟨k + 1, r ++ [x], A2, c2, by omega, by go_num, hb2, by simp, by simpa using hgl2, by simp; omega, by rw [decide_eq_true (by omega)], HP⟩, rfl⟩)); (case measure => (simp [intOf]; omega)))
        · have hk1 : (x.fKind.toList != b.fKind.toList) = false := by unfold bne; rw [h1]; rfl
          have h2 : (x.fName.toList == b.fName.toList) = false := by rw [h1, Bool.true_and] at hat; exact hat
          have hk2 : (x.fName.toList != b.fName.toList) = true := by unfold bne; rw [h2]; rfl
          go_wp2_with fail
          go_quiet (fail)
          generalize hwq : World.drewN wr _ = wq
          have hbd : Below wr.heap.size wr wq := by rw [← hwq]; exact below_drewN (Below.refl _ _) _
          have hbq := hb.trans (hbd.mono hb.size)
          have hglq := hgl.below hbd
          clear hy0 hy1 hy2 hc0 hc1 hc2 HR HC
          clear hwq hbd
          have HRq := Lib.hid (range_below (B := 0) hR hbq)
          have HCq := Lib.hid (range_below (B := 0) HC0.out hbq)
          have hy0q := HRq.out 0 (.string b.fKind) rfl
          have hy1q := HRq.out 1 (.string b.fName) rfl
          have hy2q := HRq.out 2 (.string b.fText) rfl
          have hc0q := HCq.out 0 (.string x.fKind) rfl
          have hc1q := HCq.out 1 (.string x.fName) rfl
          have hc2q := HCq.out 2 (.string x.fText) rfl
          simp only [blockE, Nat.add_zero, Nat.zero_add] at hy0q hy1q hy2q hc0q hc1q hc2q
          go_wp2_with (at_builtin; refine wpList_push blockE rfl (.tmp 46) (.tmp 51) 26 rfl W0.heap.size 42 i0 _ 48 Tryd.underlying26 hi hz0 hz1 hz2 rfl (.slice A' r.length c') r x rfl (hglq.alloc _) _ rfl (range_new' _ _ _ (by first | rfl | simp)) (by first | omega | (simp; omega)) (by decide) W0 (hbq.alloc (by first | exact hbq.size | omega) _) (by simp; have := hbq.size; omega) ?_; intro A2 c2 w2 hgl2 hb2 hs2)
          first | (refine ⟨⟨k + 1, r ++ [x], A2, c2, by omega, by go_num, hb2, by simp, by simpa using hgl2, by simp; omega, by rw [decide_eq_true (by omega)], HP⟩, ?_⟩; (simp [intOf]; omega)) | (go_roundw; (case rel => first | exact ⟨k + 1, r ++ [x], A2, c2, by omega, by go_num, hb2, by simp, by simpa using hgl2, by simp; omega, by rw [decide_eq_true (by omega)], HP⟩ | ((try refine ⟨trivial, ?_⟩); (repeat apply Exists.intro); exact ⟨⟨k + 1, r ++ [x], A2, c2, by omega, by go_num, hb2, by simp, by simpa using hgl2, by simp; omega, by rw [decide_eq_true (by omega)], HP⟩, rfl⟩)); (case measure => (simp [intOf]; omega)))
    · obtain rfl : k = n := by omega
      have hbF := hbw.trans (hb.mono (by omega))
      by_cases hp : pOf l b < k
      · have hd : decide (pOf l b < k) = true := decide_eq_true hp
        have E : Hid (insB l b = r) := Lib.hid (by rw [HH.out, ← Hl.out]; exact (pre_end (by rw [Hl.out]; exact hp)).symm)
        rw [hd]
        go_wp2
        go_ret
        exact RetL.mk (hgl.mono (by omega)) (by omega) E.out hbF
      · have hd : decide (pOf l b < k) = false := decide_eq_false hp
        have E : Hid (insB l b = r ++ [b]) := Lib.hid (by rw [HH.out, ← Hl.out]; exact (pre_last (by rw [Hl.out]; exact hp)).symm)
        rw [hd]
        have HR := Lib.hid (range_below (B := 0) hR hb)
        have hy0 := HR.out 0 (.string b.fKind) rfl
        have hy1 := HR.out 1 (.string b.fName) rfl
        have hy2 := HR.out 2 (.string b.fText) rfl
        simp only [blockE, Nat.add_zero, Nat.zero_add] at hy0 hy1 hy2
        go_wp2_with (at_builtin; refine wpList_push blockE rfl (.tmp 55) (.tmp 57) 26 rfl W0.heap.size 42 i0 _ 48 Tryd.underlying26 hi hz0 hz1 hz2 rfl (.slice A' r.length c') r b rfl (hgl.alloc _) _ rfl (range_new' _ _ _ (by first | rfl | simp)) (by first | omega | (simp; omega)) (by decide) W0 (hb.alloc (by first | exact hb.size | omega) _) (by simp; have := hb.size; omega) ?_; intro A3 c3 w3 hgl3 hb3 hs3)
        go_ret
        exact RetL.mk (hgl3.mono (by omega)) (by omega) E.out (hbw.trans (hb3.mono (by omega)))

end Go.Proofs.YtnbeomceiealdaaDoor
