/- An archive's lines and its whole text: both sides. -/
import Derived.Test.YtnbeomceiealdaaDoorRows
import Derived.Test.YtnbeomceiealdaaDoorFive
namespace Go.Proofs.YtnbeomceiealdaaDoor
set_option linter.unusedVariables false
set_option linter.unusedSimpArgs false
set_option linter.unusedSectionVars false
open Go.RowKit

theorem rest_text (x : DBlock) : x.fKind ++ ⟨#[32]⟩ ++ x.fName ++ ⟨#[32]⟩ ++ x.fText = ofL (restL x) := eq_ofL (by
  simp only [bl_app]
  unfold restL
  show (((bl x.fKind ++ [32]) ++ bl x.fName) ++ [32]) ++ bl x.fText = _
  simp)
theorem line_text (r : List UInt8) : ofL (fiveL (crcL r 65535)) ++ ⟨#[32]⟩ ++ ofL r = ofL (lineL r) := eq_ofL (by
  simp only [bl_app]
  unfold lineL
  show ((ofL (fiveL (crcL r 65535))).data.toList ++ [32]) ++ (ofL r).data.toList = _
  rw [ofL_data, ofL_data]
  simp)
theorem line_nl (r : List UInt8) : ofL (lineL r) ++ ⟨#[10]⟩ = ofL (lineL r ++ [10]) := eq_ofL (by
  rw [bl_app]
  show (ofL (lineL r)).data.toList ++ [10] = _
  rw [ofL_data])
theorem head_text (n : Nat) : (⟨#[97, 114, 99, 104, 105, 118, 101, 32]⟩ : ByteArray) ++ ofL (Lib.itoa (n : Int)) ++ ⟨#[10]⟩ = ofL (headL n) := eq_ofL (by
  simp only [bl_app]
  unfold headL
  show ([97, 114, 99, 104, 105, 118, 101, 32] ++ (ofL (Lib.itoa (n : Int))).data.toList) ++ [10] = _
  rw [ofL_data]
  simp)

set_option maxHeartbeats 1000000 in
theorem s_l29Line (b off : Nat) (x : DBlock) (w : World) (hz : x.fKind.size ≤ 10 ∧ x.fName.size ≤ 10 ∧ x.fText.size ≤ 400) (hc : w.rangeAt b off (blockE.cells x)) :
    Calls Tryd.prog 39 #[.pointer (some ⟨b, off, none⟩)] w fun e w' => e = .returned (.string (ofL (lineL (restL x) ++ [10]))) ∧ Below w.heap.size w w' := by
  obtain ⟨hz1, hz2, hz3⟩ := hz
  have hc0 := hc 0 (.string x.fKind) rfl
  have hc1 := hc 1 (.string x.fName) rfl
  have hc2 := hc 2 (.string x.fText) rfl
  simp only [Nat.add_zero] at hc0
  clear hc
  have hrt := rest_text x
  have hlen := rest_len x
  have hlt := line_text (restL x)
  have hnl := line_nl (restL x)
  have hcl := crc_lt (restL x)
  obtain ⟨R, hR⟩ : ∃ R, ofL (restL x) = R := ⟨_, rfl⟩
  obtain ⟨c, hcc⟩ : ∃ c, crcL (restL x) 65535 = c := ⟨_, rfl⟩
  obtain ⟨V, hV⟩ : ∃ V, ofL (fiveL c) = V := ⟨_, rfl⟩
  have hRs : R.size ≤ 422 := by rw [← hR, ofL_size]; omega
  have HC : Hid (∀ W, Calls Tryd.prog 48 #[.string R, .int .i64 65535] W fun e w' => e = .returned (.int .i64 (c : Int)) ∧ W = w') := Lib.hid fun W => by
    have h := s_l01Crc R 65535 W (by omega) (by omega)
    rw [← hR, ofL_data, hcc, hR] at h
    exact h
  have hVs : V.size = 5 := by rw [← hV, ofL_size, ← hcc, five_len]
  have HF : Hid (∀ W, Calls Tryd.prog 47 #[.int .i64 c] W fun e w' => e = .returned (.string V) ∧ Below W.heap.size W w') := Lib.hid fun W => by
    have h := s_l29Five c W (by omega)
    rw [hV] at h
    exact h
  have HE : Hid (ofL (lineL (restL x) ++ [10]) = V ++ ⟨#[32]⟩ ++ R ++ ⟨#[10]⟩) := Lib.hid (by rw [← hnl, ← hlt, hcc, hV, hR])
  rw [hR] at hrt
  have HRT := Lib.hid hrt
  clear hlen hlt hnl hcl hR hcc hV hrt
  go_enter Tryd.func39, Tryd.ntmps39
  go_wp2_with fail
  go_quiet (fail)
  rw [HRT.out]
  go_wp2_with fail
  refine (HC.out _).mono ?_
  rintro e w1 ⟨rfl, rfl⟩
  go_wp2_with fail
  refine (HF.out _).mono ?_
  rintro e w2 ⟨rfl, hb⟩
  go_wp2
  go_ret
  exact ⟨by rw [HE.out]; rfl, (below_drewN (Below.refl _ _) _).trans (hb.mono (Nat.le_refl _))⟩

set_option maxHeartbeats 1000000 in
theorem s_l29Save (A : Option Addr) (n c : Nat) (l : List DBlock) (w : World) (hr : Rd blockE w A n l) (hok : blocksB l = true) :
    Calls Tryd.prog 22 #[.slice A n c] w fun e w' => e = .returned (.string (ofL (saveTo l l.length))) ∧ Below w.heap.size w w' := by
  have hl := hr.1
  obtain ⟨hm, h32⟩ := blocks_mem hok
  have HM := Lib.hid hm
  have HLEN := Lib.hid (save_len hok)
  have hn32 : n ≤ 32 := by omega
  have HH := Lib.hid (head_text n)
  have HZ := Lib.hid (save_zero l)
  have Hl := Lib.hid hl
  have hd := s_l01Dec n w (by omega)
  obtain ⟨D, hD⟩ : ∃ D, ofL (Lib.itoa (n : Int)) = D := ⟨_, rfl⟩
  have hDs : D.size ≤ 5 := by rw [← hD, ofL_size]; exact nDigits_le (by omega)
  rw [hD] at hd
  have HH2 : Hid ((⟨#[97, 114, 99, 104, 105, 118, 101, 32]⟩ : ByteArray) ++ D ++ ⟨#[10]⟩ = ofL (saveTo l 0)) := Lib.hid (by rw [HZ.out, Hl.out, ← HH.out, hD])
  clear hm h32 hok hl hD HH HZ
  go_enter Tryd.func22, Tryd.ntmps22
  go_wp2_with fail
  refine hd.mono ?_
  rintro e w1 ⟨rfl, hb1⟩
  clear hd
  go_wp2_with fail
  go_loopw [3, 4] (fun v i wr => ∃ (k : Nat) (T : ByteArray), k ≤ n ∧ i = .int .i64 k ∧ v = .string T ∧ Hid (T = ofL (saveTo l k)) ∧ Below w.heap.size w wr) (fun _ i _ => n - (intOf i).toNat)
  case atStart => exact ⟨0, _, Nat.zero_le _, rfl, rfl, HH2, hb1⟩
  case round =>
    obtain ⟨k, T, hk, rfl, rfl, HT, hb⟩ := hrel
    have hTs : T.size ≤ 100 + 500 * k := by rw [HT.out, ofL_size]; exact HLEN.out k
    by_cases hlt : k < n
    · obtain ⟨b, off, x, rfl, hx, hc⟩ := (hr.below hb).get hlt
      have hline := s_l29Line b (off + k * 3) x wr (block_small (HM.out x (List.mem_of_getElem? hx))) hc
      have hLs := line_len (restL x)
      have hrs := rest_len x
      have hbs := block_small (HM.out x (List.mem_of_getElem? hx))
      obtain ⟨U, hU⟩ : ∃ U, ofL (lineL (restL x) ++ [10]) = U := ⟨_, rfl⟩
      have hUs : U.size ≤ 500 := by rw [← hU, ofL_size, List.length_append, List.length_singleton]; omega
      have HN : Hid (T ++ U = ofL (saveTo l (k + 1))) := Lib.hid (by rw [HT.out, ← hU, ofL_app, save_step hx])
      rw [hU] at hline
      clear hU hLs hrs hbs hc hx
      go_wp2_with fail
      refine hline.mono ?_
      rintro e w2 ⟨rfl, hb2⟩
      have hbN := hb.trans (hb2.mono hb.size)
      clear hline
      go_wp2
      first | (refine ⟨⟨k + 1, T ++ U, by omega, by go_num, rfl, HN, hbN⟩, ?_⟩; (simp [intOf]; omega)) | (go_roundw; (case rel => first | exact ⟨k + 1, T ++ U, by omega, by go_num, rfl, HN, hbN⟩ | ((try refine ⟨trivial, ?_⟩); (repeat apply Exists.intro); exact ⟨⟨k + 1, T ++ U, by omega, by go_num, rfl, HN, hbN⟩, rfl⟩)); (case measure => (simp [intOf]; omega)))
    · have E : Hid (ofL (saveTo l l.length) = T) := Lib.hid (by rw [HT.out, Hl.out, show k = n by omega])
      go_wp2
      go_ret
      exact ⟨by rw [E.out]; rfl, hb⟩

set_option maxHeartbeats 1000000 in
theorem S_SaveBlocks (A : Option Addr) (n c : Nat) (l : List DBlock) (w : World) (hr : Rd blockE w A n l) (hn : n ≤ 1048576) (hg : ∀ x ∈ l, x.good) (hsum : sumBlock l ≤ 1048576) :
    Calls Tryd.prog 7 #[.slice A n c] w fun e w' => e = .returned (.tuple #[.string (saveT l), .int .i64 (saveCode l)]) ∧ Below w.heap.size w w' := by
  have hok := fun W (h : Rd blockE W A n l) => s_l29Ok A n c l W h (by unfold maxLen; omega) hg
  rcases hB : blocksB l with _ | _
  · have E := Lib.hid (save_bad hB)
    rw [hB] at hok
    clear hB
    go_enter Tryd.func7, Tryd.ntmps7
    go_wp2_with fail
    refine (hok _ hr).mono ?_
    rintro e w1 ⟨rfl, hb1⟩
    go_wp2
    go_ret2
    exact ⟨by rw [E.out.1, E.out.2]; rfl, hb1⟩
  · have E := Lib.hid (save_ok hB)
    have hsv := fun W (h : Rd blockE W A n l) => s_l29Save A n c l W h hB
    rw [hB] at hok
    clear hB
    go_enter Tryd.func7, Tryd.ntmps7
    go_wp2_with fail
    refine (hok _ hr).mono ?_
    rintro e w1 ⟨rfl, hb1⟩
    have hr1 := hr.below hb1
    go_wp2_with fail
    refine (hsv _ hr1).mono ?_
    rintro e w2 ⟨rfl, hb2⟩
    have hbF := hb1.trans (hb2.mono hb1.size)
    go_wp2
    go_ret2
    exact ⟨by rw [E.out.1, E.out.2]; rfl, hbF⟩

set_option maxHeartbeats 1000000 in
theorem i_lineOf (R : ByteArray) (w : World) (hs : R.size ≤ 1048576) (hL : LibW w) :
    Calls Tryd.prog 26 #[.string R] w fun e w' => e = .returned (.string (ofL (lineL (bl R)))) ∧ Below w.heap.size w w' := by
  have hlt := line_text (bl R)
  have hcl := crc_lt (bl R)
  have hR : ofL (bl R) = R := ofL_self R
  obtain ⟨c, hcc⟩ : ∃ c, crcL (bl R) 65535 = c := ⟨_, rfl⟩
  obtain ⟨V, hV⟩ : ∃ V, ofL (fiveL c) = V := ⟨_, rfl⟩
  have HC : Hid (∀ W, Calls Tryd.prog 45 #[.string R, .int .i64 65535] W fun e w' => e = .returned (.int .i64 (c : Int)) ∧ W = w') := Lib.hid fun W => by
    have h := i_Crc16 R 65535 W (by omega) (by omega)
    rw [show R.data.toList = bl R from rfl, hcc] at h
    exact h
  have hVs : V.size = 5 := by rw [← hV, ofL_size, ← hcc, five_len]
  have HF : Hid (Calls Tryd.prog 44 #[.int .i64 c, .int .i64 5] w fun e w' => e = .returned (.string V) ∧ Below w.heap.size w w') := Lib.hid (by
    have h := i_padded c w (by omega) hL
    rw [hV] at h
    exact h)
  have HE : Hid (ofL (lineL (bl R)) = V ++ ⟨#[32]⟩ ++ R) := Lib.hid (by rw [← hlt, hcc, hV, hR])
  clear hlt hcl hR hcc hV
  go_enter Tryd.func26, Tryd.ntmps26
  go_wp2_with fail
  refine (HC.out _).mono ?_
  rintro e w1 ⟨rfl, rfl⟩
  go_wp2_with fail
  refine HF.out.mono ?_
  rintro e w2 ⟨rfl, hb⟩
  go_wp2
  go_ret
  exact ⟨by rw [HE.out]; rfl, hb⟩

set_option maxHeartbeats 1000000 in
theorem i_rest (x : DBlock) (w : World) (hz : x.fKind.size ≤ 1048576 ∧ x.fName.size ≤ 1048576 ∧ x.fText.size ≤ 1048576) :
    Calls Tryd.prog 27 #[.agg #[.string x.fKind, .string x.fName, .string x.fText]] w fun e w' => e = .returned (.string (ofL (restL x))) ∧ Below w.heap.size w w' := by
  obtain ⟨hz1, hz2, hz3⟩ := hz
  have HRT := Lib.hid (rest_text x)
  have hc := range_new w #[.string x.fKind, .string x.fName, .string x.fText] 42
  have hb0 : Below w.heap.size w (w.alloc (.cells #[.string x.fKind, .string x.fName, .string x.fText] 42)) := (Below.refl _ _).alloc (Nat.le_refl _) _
  go_enter Tryd.func27, Tryd.ntmps27
  go_wp2
  go_ret
  exact ⟨by rw [← HRT.out]; rfl, by (repeat (first | exact Below.refl _ _ | assumption | refine Below.drew ?_ | refine Below.alloc ?_ (by first | omega | (simp; done) | (simp; omega) | exact Below.size (by assumption)) _ | refine Below.setCell ?_ (by first | omega | (simp; done) | (simp; omega)) _))⟩

set_option maxHeartbeats 2000000 in
theorem I_SaveBlocks (A : Option Addr) (n c : Nat) (l : List DBlock) (w : World) (hr : Rd blockE w A n l) (hn : n ≤ 1048576) (hg : ∀ x ∈ l, x.good) (hsum : sumBlock l ≤ 1048576) (hL : LibW w) :
    Calls Tryd.prog 9 #[.slice A n c] w fun e w' => e = .returned (.tuple #[.string (saveT l), .int .i64 (saveCode l)]) ∧ Below w.heap.size w w' := by
  have Hl := Lib.hid hr.1
  go_enter Tryd.func9, Tryd.ntmps9
  go_wp2_with fail
  refine (i_ValidBlocks A n c l _ hr (by unfold maxLen; omega) hg).mono ?_
  rintro e w1 ⟨rfl, hb1⟩
  rcases hB : blocksB l with _ | _
  · have E := Lib.hid (save_bad hB); clear hB
    go_wp2
    go_ret2
    exact ⟨by rw [E.out.1, E.out.2]; rfl, hb1⟩
  · have E := Lib.hid (save_ok hB)
    obtain ⟨hm, h32⟩ := blocks_mem hB
    have HM := Lib.hid hm
    have HLEN := Lib.hid (save_len hB)
    have hn32 : n ≤ 32 := by have := Hl.out; omega
    have HH := Lib.hid (head_text n)
    have HZ := Lib.hid (save_zero l)
    have hd := i_Decimal n w1 (by omega) (hL.below hb1)
    obtain ⟨D, hD⟩ : ∃ D, ofL (Lib.itoa (n : Int)) = D := ⟨_, rfl⟩
    have hDs : D.size ≤ 5 := by rw [← hD, ofL_size]; exact nDigits_le (by omega)
    rw [hD] at hd
    have HH2 : Hid ((⟨#[97, 114, 99, 104, 105, 118, 101, 32]⟩ : ByteArray) ++ D ++ ⟨#[10]⟩ = ofL (saveTo l 0)) := Lib.hid (by rw [HZ.out, Hl.out, ← HH.out, hD])
    clear hm h32 hB hD HH HZ
    go_wp2_with fail
    refine hd.mono ?_
    rintro e w2 ⟨rfl, hb2⟩
    have hb12 := hb1.trans (hb2.mono hb1.size)
    clear hd
    go_wp2_with fail
    go_loopw [4, 17] (fun v i wr => ∃ (k : Nat) (T : ByteArray), k ≤ n ∧ i = .int .i64 k ∧ v = .string T ∧ Hid (T = ofL (saveTo l k)) ∧ Below w.heap.size w wr) (fun _ i _ => n - (intOf i).toNat)
    case atStart => exact ⟨0, _, Nat.zero_le _, rfl, rfl, HH2, hb12⟩
    case round =>
      obtain ⟨k, T, hk, rfl, rfl, HT, hb⟩ := hrel
      have hTs : T.size ≤ 100 + 500 * k := by rw [HT.out, ofL_size]; exact HLEN.out k
      by_cases hlt : k < n
      · obtain ⟨b, off, x, rfl, hx, hc⟩ := (hr.below hb).get hlt
        have hbk := block_small (HM.out x (List.mem_of_getElem? hx))
        have hc0 := hc 0 (.string x.fKind) rfl
        have hc1 := hc 1 (.string x.fName) rfl
        have hc2 := hc 2 (.string x.fText) rfl
        simp only [blockE, Nat.add_zero] at hc0 hc1 hc2
        have hLs := line_len (restL x)
        have hrs := rest_len x
        have hbn : Below w.heap.size w (wr.alloc (.cells #[.string x.fKind, .string x.fName, .string x.fText] 42)) := hb.alloc hb.size _
        have hrest := i_rest x (wr.alloc (.cells #[.string x.fKind, .string x.fName, .string x.fText] 42)) (by omega)
        have hline := fun W (h : Below w.heap.size w W) => i_lineOf (ofL (restL x)) W (by rw [ofL_size]; omega) (hL.below h)
        rw [show bl (ofL (restL x)) = restL x from ofL_data _] at hline
        have HNL := line_nl (restL x)
        obtain ⟨R, hR⟩ : ∃ R, ofL (restL x) = R := ⟨_, rfl⟩
        obtain ⟨U, hU⟩ : ∃ U, ofL (lineL (restL x)) = U := ⟨_, rfl⟩
        have hUs : U.size ≤ 500 := by rw [← hU, ofL_size]; omega
        have HN : Hid (T ++ (U ++ ⟨#[10]⟩) = ofL (saveTo l (k + 1))) := Lib.hid (by rw [HT.out, ← hU, HNL, ofL_app, save_step hx])
        rw [hR] at hrest hline
        rw [hU] at hline
        clear hU hR hLs hrs hbk hc hx HNL
        go_wp2_with fail
        refine hrest.mono ?_
        rintro e w3 ⟨rfl, hb3⟩
        have hbN := hbn.trans (hb3.mono hbn.size)
        have hl2 := hline w3 hbN
        clear hrest hline
        go_wp2_with fail
        refine hl2.mono ?_
        rintro e w4 ⟨rfl, hb4⟩
        have hbQ := hbN.trans (hb4.mono hbN.size)
        clear hl2
        go_wp2
        first | (refine ⟨⟨k + 1, T ++ (U ++ ⟨#[10]⟩), by omega, by go_num, rfl, HN, hbQ⟩, ?_⟩; (simp [intOf]; omega)) | (go_roundw; (case rel => first | exact ⟨k + 1, T ++ (U ++ ⟨#[10]⟩), by omega, by go_num, rfl, HN, hbQ⟩ | ((try refine ⟨trivial, ?_⟩); (repeat apply Exists.intro); exact ⟨⟨k + 1, T ++ (U ++ ⟨#[10]⟩), by omega, by go_num, rfl, HN, hbQ⟩, rfl⟩)); (case measure => (simp [intOf]; omega)))
      · have E2 : Hid (ofL (saveTo l l.length) = T) := Lib.hid (by rw [HT.out, Hl.out, show k = n by omega])
        go_wp2
        go_ret2
        exact ⟨by rw [E.out.1, E.out.2, E2.out]; rfl, hb⟩

end Go.Proofs.YtnbeomceiealdaaDoor
