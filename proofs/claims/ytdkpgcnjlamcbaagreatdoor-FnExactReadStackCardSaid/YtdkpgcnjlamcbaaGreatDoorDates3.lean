/- Days and dates: the texts, both sides' walks. -/
import Derived.Test.YtdkpgcnjlamcbaaGreatDoorRows
import Derived.Test.YtdkpgcnjlamcbaaGreatDoorDates2
import Derived.Test.YtdkpgcnjlamcbaaGreatDoorWordsND
import Derived.Test.YtdkpgcnjlamcbaaGreatDoorShelf
namespace Go.Proofs.YtdkpgcnjlamcbaaGreatDoor
set_option linter.unusedVariables false
set_option linter.unusedSimpArgs false
set_option linter.unusedSectionVars false
open Go.RowKit

def decFrom0 (l : List UInt8) : Option Nat := Lib.decFrom 0 l
theorem dateRead_len {l : List UInt8} (h : l.length ≠ 10) : dateRead l = none := by unfold dateRead; rw [if_neg fun hh => h hh.1]
theorem dateRead_m4 {l : List UInt8} {c : UInt8} (h : l[4]? = some c) (hc : c ≠ 45) : dateRead l = none := by
  unfold dateRead; rw [if_neg fun hh => hc (by have := hh.2.1; rw [h] at this; exact Option.some.inj this)]
theorem dateRead_m7 {l : List UInt8} {c : UInt8} (h : l[7]? = some c) (hc : c ≠ 45) : dateRead l = none := by
  unfold dateRead; rw [if_neg fun hh => hc (by have := hh.2.2; rw [h] at this; exact Option.some.inj this)]
theorem dateRead_digits {l : List UInt8} (h : l.length = 10) (h4 : l[4]? = some 45) (h7 : l[7]? = some 45) (hd : decFrom0 (l.take 4) = none ∨ decFrom0 ((l.drop 5).take 2) = none ∨ decFrom0 (l.drop 8) = none) : dateRead l = none := by
  unfold dateRead
  rw [if_pos ⟨h, h4, h7⟩]
  unfold decFrom0 at hd
  split
  · rename_i y m d e1 e2 e3
    rcases hd with h | h | h
    · rw [e1] at h; cases h
    · rw [e2] at h; cases h
    · rw [e3] at h; cases h
  · rfl
theorem dateRead_num {l : List UInt8} {y m d : Nat} (h : l.length = 10) (h4 : l[4]? = some 45) (h7 : l[7]? = some 45) (e1 : decFrom0 (l.take 4) = some y) (e2 : decFrom0 ((l.drop 5).take 2) = some m) (e3 : decFrom0 (l.drop 8) = some d) :
    dnV y m d = (((dateRead l).getD 0 : Nat) : Int) ∧ dateOkB y m d = (dateRead l).isSome := by
  unfold dateRead
  unfold decFrom0 at e1 e2 e3
  rw [if_pos ⟨h, h4, h7⟩, e1, e2, e3]
  simp only
  unfold dnV
  by_cases hc : 2000 ≤ y ∧ y ≤ 2099 ∧ 1 ≤ m ∧ m ≤ 12 ∧ 1 ≤ d ∧ d ≤ lenB (leapB y) m
  · rw [if_pos hc, dateOkB_iff.2 ⟨hc.1, hc.2.1, hc.2.2.1, hc.2.2.2.1, hc.2.2.2.2.1, hc.2.2.2.2.2⟩]
    exact ⟨rfl, rfl⟩
  · rw [if_neg hc]
    have : dateOkB y m d = false := by
      rw [Bool.eq_false_iff]
      intro hk
      have := dateOkB_iff.1 hk
      exact hc ⟨this.y0, this.y1, this.m0, this.m1, this.d0, this.d1⟩
    rw [this]
    exact ⟨rfl, rfl⟩
theorem digOk_none {s : ByteArray} {l : List UInt8} (hl : s.data.toList = l) (h : digOk s = false) : decFrom0 l = none := by
  unfold digOk at h
  unfold decFrom0
  rw [← hl]
  cases hh : Lib.decFrom 0 s.data.toList with
  | none => rfl
  | some m => rw [hh] at h; cases h
theorem digOk_some {s : ByteArray} {l : List UInt8} (hl : s.data.toList = l) (hs : l.length ≤ 18) (h : digOk s = true) : ∃ n : Nat, digV s = n ∧ decFrom0 l = some n ∧ n ≤ 1000000000000000000 := by
  unfold digOk at h
  unfold decFrom0 digV
  rw [← hl] at hs ⊢
  cases hh : Lib.decFrom 0 s.data.toList with
  | none => rw [hh] at h; cases h
  | some m => exact ⟨m, rfl, rfl, Nat.le_of_lt (dec_lt18 hh hs)⟩
set_option maxRecDepth 100000 in
set_option maxHeartbeats 2000000 in
theorem s_l02Read (s : ByteArray) (w : World) (hs : s.size ≤ 1048576) :
    Calls Tryz.prog 14 #[.string s] w fun e w' => e = .returned (.tuple #[.int .i64 (dateV s), .bool (dateOk s)]) ∧ Below w.heap.size w w' := by
  by_cases h10 : s.size = 10
  · have h4 := byte_at s 4 (by omega)
    have h7 := byte_at s 7 (by omega)
    by_cases hc4 : s[4] = 45
    · have ht4 : ((s[4].toNat : Int) != 45) = false := by rw [bne, show ((s[4].toNat : Int) == 45) = true from u8_eq hc4]; rfl
      by_cases hc7 : s[7] = 45
      · have ht7 : ((s[7].toNat : Int) != 45) = false := by rw [bne, show ((s[7].toNat : Int) == 45) = true from u8_eq hc7]; rfl
        have HL := Lib.hid (show s.data.toList.length = 10 by rw [len_data]; exact h10)
        have H4 : Hid (s.data.toList[4]? = some 45) := Lib.hid (by rw [h4, hc4])
        have H7 : Hid (s.data.toList[7]? = some 45) := Lib.hid (by rw [h7, hc7])
        have HX : Hid ((s.extract 0 4).data.toList = s.data.toList.take 4 ∧ (s.extract 5 7).data.toList = (s.data.toList.drop 5).take 2 ∧ (s.extract 8 10).data.toList = s.data.toList.drop 8) := Lib.hid ⟨by rw [cut_data]; rfl, by rw [cut_data], by rw [cut_data, List.take_of_length_le (by rw [List.length_drop, len_data]; omega)]⟩
        have c1 := fun W => s_l02Digits (s.extract 0 4) W (by rw [← len_data, HX.out.1, List.length_take]; omega)
        have c2 := fun W => s_l02Digits (s.extract 5 7) W (by rw [← len_data, HX.out.2.1, List.length_take]; omega)
        have c3 := fun W => s_l02Digits (s.extract 8 10) W (by rw [← len_data, HX.out.2.2, List.length_drop, HL.out]; omega)
        obtain ⟨p, hp⟩ : ∃ p, s.extract 0 4 = p := ⟨_, rfl⟩
        obtain ⟨q, hq⟩ : ∃ q, s.extract 5 7 = q := ⟨_, rfl⟩
        obtain ⟨r, hr⟩ : ∃ r, s.extract 8 10 = r := ⟨_, rfl⟩
        rw [hp] at c1 HX
        rw [hq] at c2 HX
        rw [hr] at c3 HX
        have HP := Lib.hid hp
        have HQ := Lib.hid hq
        have HR := Lib.hid hr
        clear h4 h7 hc4 hc7
        go_enter Tryz.func14, Tryz.ntmps14
        go_wp2_with fail
        try rw [hp]
        refine (c1 _).mono ?_
        rintro e w' ⟨rfl, rfl⟩
        clear c1 hp
        go_wp2_with fail
        try rw [hq]
        refine (c2 _).mono ?_
        rintro e w' ⟨rfl, rfl⟩
        clear c2 hq
        go_wp2_with fail
        try rw [h10]
        try rw [hr]
        refine (c3 _).mono ?_
        rintro e w' ⟨rfl, rfl⟩
        clear c3 hr
        rcases hk1 : digOk p with _ | _
        · have E := Lib.hid (dt_no (dateRead_digits HL.out H4.out H7.out (.inl (digOk_none HX.out.1 hk1))))
          clear hk1
          go_wp2
          go_ret2
          exact ⟨ret_ib E.out, Below.refl _ _⟩
        rcases hk2 : digOk q with _ | _
        · have E := Lib.hid (dt_no (dateRead_digits HL.out H4.out H7.out (.inr (.inl (digOk_none HX.out.2.1 hk2)))))
          clear hk1 hk2
          go_wp2
          go_ret2
          exact ⟨ret_ib E.out, Below.refl _ _⟩
        rcases hk3 : digOk r with _ | _
        · have E := Lib.hid (dt_no (dateRead_digits HL.out H4.out H7.out (.inr (.inr (digOk_none HX.out.2.2 hk3)))))
          clear hk1 hk2 hk3
          go_wp2
          go_ret2
          exact ⟨ret_ib E.out, Below.refl _ _⟩
        obtain ⟨y, hy, ey, _⟩ := digOk_some HX.out.1 (by rw [List.length_take]; omega) hk1
        obtain ⟨m, hm, em, _⟩ := digOk_some HX.out.2.1 (by rw [List.length_take]; omega) hk2
        obtain ⟨d, hd, ed, hdl⟩ := digOk_some HX.out.2.2 (by rw [List.length_drop, HL.out]; omega) hk3
        have HN := Lib.hid (dateRead_num HL.out H4.out H7.out ey em ed)
        have hcall := fun W => s_l02Number y m d W (by omega)
        rw [hy, hm, hd]
        clear hk1 hk2 hk3 hy hm hd ey em ed
        go_wp2_with fail
        refine (hcall _).mono ?_
        rintro e w1 ⟨rfl, hb⟩
        clear hcall
        go_wp2
        go_ret2
        exact ⟨ret_ib (by unfold dateV dateOk; exact HN.out), hb⟩
      · have E := Lib.hid (dt_no (dateRead_m7 h7 hc7))
        have ht7 : ((s[7].toNat : Int) != 45) = true := by rw [bne, show ((s[7].toNat : Int) == 45) = false from u8_ne hc7]; rfl
        clear h4 h7 hc4 hc7
        go_enter Tryz.func14, Tryz.ntmps14
        go_wp2
        go_ret2
        exact ⟨ret_ib E.out, Below.refl _ _⟩
    · have E := Lib.hid (dt_no (dateRead_m4 h4 hc4))
      have ht4 : ((s[4].toNat : Int) != 45) = true := by rw [bne, show ((s[4].toNat : Int) == 45) = false from u8_ne hc4]; rfl
      clear h4 h7 hc4
      go_enter Tryz.func14, Tryz.ntmps14
      go_wp2
      go_ret2
      exact ⟨ret_ib E.out, Below.refl _ _⟩
  · have E := Lib.hid (dt_no (dateRead_len (l := s.data.toList) (by rw [len_data]; exact h10)))
    have hne : ((s.size : Int) == 10) = false := by rw [beq_eq_false_iff_ne]; omega
    go_enter Tryz.func14, Tryz.ntmps14
    go_wp2
    go_ret2
    exact ⟨ret_ib E.out, Below.refl _ _⟩

theorem two_rep {n : Nat} (h : n < 100) : twoL n = List.replicate (2 - (Lib.itoa (n : Int)).length) 48 ++ Lib.itoa (n : Int) ∧ (Lib.itoa (n : Int)).length ≤ 2 := by
  unfold twoL
  rw [itoa_nat]
  split
  · rename_i h1; rw [Lib.decDigits_one h1]; exact ⟨rfl, by simp⟩
  · rename_i h1; rw [decDigits_big h1, Lib.decDigits_one (show n / 10 < 10 by omega)]; exact ⟨rfl, by simp⟩
set_option maxHeartbeats 1000000 in
theorem i_padded2 (n : Nat) (w : World) (hn : n < 100) (hL : LibW w) :
    Calls Tryz.prog 40 #[.int .i64 n, .int .i64 2] w fun e w' => e = .returned (.string (ofL (twoL n))) ∧ Below w.heap.size w w' := by
  have hlen := (two_rep hn).2
  have hd := i_Decimal n w (by omega) hL
  obtain ⟨L, hLL⟩ : ∃ L, Lib.itoa (n : Int) = L := ⟨_, rfl⟩
  have HF : Hid (twoL n = List.replicate (2 - L.length) 48 ++ L) := Lib.hid (by rw [(two_rep hn).1, hLL])
  rw [hLL] at hlen hd
  clear hLL
  have hT := ofL_size L
  obtain ⟨T, hTT⟩ : ∃ T, ofL L = T := ⟨_, rfl⟩
  rw [hTT] at hT hd
  have HTT := Lib.hid hTT
  clear hTT
  obtain ⟨k, hk⟩ : ∃ k, 2 - L.length = k := ⟨_, rfl⟩
  have hk5 : k ≤ 2 := by omega
  have hmax : (if (0 : Int) ≤ 2 - (T.size : Int) then 2 - (T.size : Int) else 0) = k := by rw [hT, if_pos (by omega)]; omega
  have hmax2 : max (0 : Int) (2 - (T.size : Int)) = k := by rw [hT]; omega
  have hrep := fun W => Tryz.strings_Repeat ⟨#[48]⟩ k W (by omega) (by show 1 * k ≤ _; omega)
  have hrz : (⟨(Lib.repeatL [48] k).toArray⟩ : ByteArray) = ofL (List.replicate k 48) := by rw [repeat_rep]; rfl
  simp only [hrz] at hrep
  obtain ⟨Z, hZ⟩ : ∃ Z, ofL (List.replicate k 48) = Z := ⟨_, rfl⟩
  have hZs : Z.size = k := by rw [← hZ, ofL_size, List.length_replicate]
  have HR : Hid (ofL (twoL n) = Z ++ T) := Lib.hid (by rw [HF.out, hk, ← hZ, ← HTT.out, ofL_add])
  simp only [hZ] at hrep
  have hT5 : T.size ≤ 2 := by omega
  clear hZ hrz hT hk HTT HF hlen
  go_enter Tryz.func40, Tryz.ntmps40
  go_wp2_with fail
  refine hd.mono ?_
  rintro e w1 ⟨rfl, hb⟩
  clear hd
  go_wp2_with fail
  refine (hrep _).mono ?_
  rintro e w2 ⟨rfl, hb2⟩
  go_wp2
  go_ret
  exact ⟨by rw [HR.out]; rfl, hb.trans (hb2.mono hb.size)⟩

set_option maxHeartbeats 1000000 in
theorem i_DateText (D : Nat) (w : World) (hD : D ≤ 36524) (hL : LibW w) :
    Calls Tryz.prog 21 #[.int .i64 D] w fun e w' => e = .returned (.string (ofL (dateL D))) ∧ Below w.heap.size w w' := by
  go_enter Tryz.func21, Tryz.ntmps21
  go_wp2_with fail
  refine (i_DateOf D _ hD).mono ?_
  rintro e w1 ⟨y, m, d, hok, hday, rfl, hb⟩
  have c1 := fun W h => i_Decimal (y : Int) W (by have := hok.y1; omega) h
  have c2 := fun W h => i_padded2 m W (by have := hok.m1; omega) h
  have c3 := fun W h => i_padded2 d W (by have := hok.d31; omega) h
  have z1 : (ofL (Lib.itoa (y : Int))).size = 4 := by rw [ofL_size, year_eq hok.y0 hok.y1]; rfl
  have z2 : (ofL (twoL m)).size = 2 := by rw [ofL_size, twoL_eq (by have := hok.m1; omega)]; rfl
  have z3 : (ofL (twoL d)).size = 2 := by rw [ofL_size, twoL_eq (by have := hok.d31; omega)]; rfl
  have E : Hid (ofL (dateL D) = ofL (Lib.itoa (y : Int)) ++ ⟨#[45]⟩ ++ ofL (twoL m) ++ ⟨#[45]⟩ ++ ofL (twoL d)) := Lib.hid (by
    rw [← hday, dateL_of hok, show (⟨#[45]⟩ : ByteArray) = ofL [45] from rfl, ofL_add, ofL_add, ofL_add, ofL_add]
    unfold fmtL
    simp)
  obtain ⟨Y, hY⟩ : ∃ Y, ofL (Lib.itoa (y : Int)) = Y := ⟨_, rfl⟩
  obtain ⟨M, hM⟩ : ∃ M, ofL (twoL m) = M := ⟨_, rfl⟩
  obtain ⟨Z, hZ⟩ : ∃ Z, ofL (twoL d) = Z := ⟨_, rfl⟩
  rw [hY] at c1 z1 E
  rw [hM] at c2 z2 E
  rw [hZ] at c3 z3 E
  have s1 : (Y ++ ⟨#[45]⟩).size = 5 := by rw [ba_app_size, z1]; rfl
  have s2 : (Y ++ ⟨#[45]⟩ ++ M).size = 7 := by rw [ba_app_size, s1, z2]
  have s3 : (Y ++ ⟨#[45]⟩ ++ M ++ ⟨#[45]⟩).size = 8 := by rw [ba_app_size, s2]; rfl
  clear hY hM hZ hok hday
  go_wp2_with fail
  refine (c1 _ (hL.below hb)).mono ?_
  rintro e w2 ⟨rfl, hb2⟩
  replace hb := hb.trans (hb2.mono hb.size)
  clear c1 hb2
  go_wp2_with fail
  refine (c2 _ (hL.below hb)).mono ?_
  rintro e w3 ⟨rfl, hb3⟩
  replace hb := hb.trans (hb3.mono hb.size)
  clear c2 hb3
  go_wp2_with fail
  refine (c3 _ (hL.below hb)).mono ?_
  rintro e w4 ⟨rfl, hb4⟩
  replace hb := hb.trans (hb4.mono hb.size)
  clear c3 hb4
  go_wp2
  go_ret
  exact ⟨by rw [E.out]; rfl, hb⟩

theorem rd_len {l : List UInt8} (h : (cutsL 45 l).length ≠ 3) : dateRead l = none := by
  cases hd : dateRead l with
  | none => rfl
  | some D =>
    obtain ⟨y, m, d, _, _, p, q, r, hc, _⟩ := read_pieces hd
    rw [hc] at h
    exact absurd rfl h
theorem rd_bad {l p q r : List UInt8} (hc : cutsL 45 l = [p, q, r]) (h : dateOkB (digN p) (digN q) (digN r) = false) : dateRead l = none := by
  cases hd : dateRead l with
  | none => rfl
  | some D =>
    obtain ⟨y, m, d, hok, _, p', q', r', hc', e1, e2, e3, _⟩ := read_pieces hd
    rw [hc] at hc'
    simp only [List.cons.injEq, and_true] at hc'
    obtain ⟨rfl, rfl, rfl⟩ := hc'
    rw [e1, e2, e3, dateOkB_iff.2 hok] at h
    cases h
theorem rd_yes {l p q r : List UInt8} (hc : cutsL 45 l = [p, q, r]) (h : dateOkB (digN p) (digN q) (digN r) = true) : dateRead l = if dateL (dayNo (digN p) (digN q) (digN r)) = l then some (dayNo (digN p) (digN q) (digN r)) else none := by
  have hok := dateOkB_iff.1 h
  split
  · rename_i he
    rw [dateL_of hok] at he
    rw [← he]
    exact dateRead_fmt hok
  · rename_i he
    cases hd : dateRead l with
    | none => rfl
    | some D =>
      obtain ⟨y, m, d, _, hD, p', q', r', hc', e1, e2, e3, _⟩ := read_pieces hd
      rw [hc] at hc'
      simp only [List.cons.injEq, and_true] at hc'
      obtain ⟨rfl, rfl, rfl⟩ := hc'
      have := (dateL_of_read hd).1
      rw [hD, ← e1, ← e2, ← e3] at this
      exact absurd this he
def AR (b off g : Nat) (p0 p1 p2 : ByteArray) (v0 v1 v2 : Int) (W : World) : Prop :=
  (W.cell? ⟨b, off, none⟩ = some (.string p0) ∧ W.cell? ⟨b, off + 1, none⟩ = some (.string p1) ∧ W.cell? ⟨b, off + 2, none⟩ = some (.string p2)) ∧
  (W.cell? ⟨g, 0, none⟩ = some (.int .i64 v0) ∧ W.cell? ⟨g, 1, none⟩ = some (.int .i64 v1) ∧ W.cell? ⟨g, 2, none⟩ = some (.int .i64 v2)) ∧ ∀ j, W.frozen? ⟨g, j, none⟩ = false
theorem AR.set {b off g : Nat} {p0 p1 p2 : ByteArray} {v0 v1 v2 : Int} {W : World} (h : AR b off g p0 p1 p2 v0 v1 v2 W) (hbg : b ≠ g) (x : Int) :
    AR b off g p0 p1 p2 x v1 v2 (W.setCell ⟨g, 0, none⟩ (.int .i64 x)) ∧ AR b off g p0 p1 p2 v0 x v2 (W.setCell ⟨g, 1, none⟩ (.int .i64 x)) ∧ AR b off g p0 p1 p2 v0 v1 x (W.setCell ⟨g, 2, none⟩ (.int .i64 x)) := by
  obtain ⟨⟨a0, a1, a2⟩, ⟨c0, c1, c2⟩, hf⟩ := h
  have hbg' : ¬ g = b := fun e => hbg e.symm
  have ho : ∀ j o v, (W.setCell ⟨g, j, none⟩ v).cell? ⟨b, o, none⟩ = W.cell? ⟨b, o, none⟩ := fun j o v => World.cell?_setCell_other _ _ _ _ (by simp [hbg'])
  have hj : ∀ i j v, i ≠ j → (W.setCell ⟨g, i, none⟩ v).cell? ⟨g, j, none⟩ = W.cell? ⟨g, j, none⟩ := fun i j v hij => World.cell?_setCell_other _ _ _ _ (by simp [hij])
  have hs : ∀ j u v, W.cell? ⟨g, j, none⟩ = some u → (W.setCell ⟨g, j, none⟩ v).cell? ⟨g, j, none⟩ = some v := fun j u v h => World.cell?_setCell_same _ _ _ h
  refine ⟨⟨⟨?_, ?_, ?_⟩, ⟨?_, ?_, ?_⟩, fun j => ?_⟩, ⟨⟨?_, ?_, ?_⟩, ⟨?_, ?_, ?_⟩, fun j => ?_⟩, ⟨⟨?_, ?_, ?_⟩, ⟨?_, ?_, ?_⟩, fun j => ?_⟩⟩
  all_goals first | (rw [ho]; assumption) | (rw [World.frozen?_setCell]; exact hf j) | (rw [hj _ _ _ (by decide)]; assumption) | exact hs _ _ _ (by assumption)
theorem dnC_no {y m d : Nat} (h : dateOkB y m d = false) : dnC y m d = 2 := by unfold dnC; rw [h]; rfl
theorem dn_is {y m d : Nat} (h : dateOkB y m d = true) : dnV y m d = (dayNo y m d : Nat) ∧ dnC y m d = 0 := by unfold dnC dnV; rw [h]; exact ⟨rfl, rfl⟩
set_option maxRecDepth 100000 in
set_option maxHeartbeats 4000000 in
theorem i_ReadDate (s : ByteArray) (w : World) (hs : s.size ≤ 1048576) (hL : LibW w) :
    Calls Tryz.prog 10 #[.string s] w fun e w' => e = .returned (.tuple #[.int .i64 (dateV s), .bool (dateOk s)]) ∧ Below w.heap.size w w' := by
  go_enter Tryz.func10, Tryz.ntmps10
  go_wp2_with fail
  refine (i_Split s 45 _ hs hL).mono ?_
  rintro e w1 ⟨A, n, c, hl, hn, rfl, hgl, hb⟩
  by_cases h3 : n = 3
  · subst h3
    have hrd := hgl.rd
    obtain ⟨b, off, p0, hAe, hp0, hcs0⟩ := hrd.get (k := 0) (by omega)
    subst hAe
    obtain ⟨b1, off1, p1, hAe1, hp1, hcs1⟩ := hrd.get (k := 1) (by omega)
    cases hAe1
    obtain ⟨b2, off2, p2, hAe2, hp2, hcs2⟩ := hrd.get (k := 2) (by omega)
    cases hAe2
    have hc0 := hcs0 0 (.string p0) rfl
    have hc1 := hcs1 0 (.string p1) rfl
    have hc2 := hcs2 0 (.string p2) rfl
    simp only [strE, Nat.mul_one, Nat.zero_mul, Nat.add_zero] at hc0 hc1 hc2
    have hbb : b < w1.heap.size := (hgl.own.2.lt b rfl).2
    have hlst : cutsB 45 s = [p0, p1, p2] := by
      match hh : cutsB 45 s, hl with
      | [x, y, z], _ =>
        rw [hh] at hp0 hp1 hp2
        simp at hp0 hp1 hp2
        rw [hp0, hp1, hp2]
    have HC : Hid (cutsL 45 s.data.toList = [p0.data.toList, p1.data.toList, p2.data.toList]) := Lib.hid (by
      have h1 := congrArg (List.map (·.data.toList)) hlst
      unfold cutsB at h1
      rw [List.map_map, show ((fun b : ByteArray => b.data.toList) ∘ ofL) = id by funext l; exact ofL_data l, List.map_id] at h1
      exact h1)
    have hz0 := piece_size hp0
    have hz1 := piece_size hp1
    have hz2 := piece_size hp2
    have D0 : ∀ W, Calls Tryz.prog 19 #[.string p0] W (DigR p0 W) := fun W => i_digitsOf p0 W (by omega)
    have D1 : ∀ W, Calls Tryz.prog 19 #[.string p1] W (DigR p1 W) := fun W => i_digitsOf p1 W (by omega)
    have D2 : ∀ W, Calls Tryz.prog 19 #[.string p2] W (DigR p2 W) := fun W => i_digitsOf p2 W (by omega)
    have hdl := digN_lt p2
    have D3 : ∀ W, Calls Tryz.prog 20 _ W _ := fun W => i_DayNumber (digN p0.data.toList) (digN p1.data.toList) (digN p2.data.toList) W (by omega)
    clear hcs0 hcs1 hcs2 hp0 hp1 hp2 hlst hl hrd hgl hn hdl
    obtain ⟨W1, hW1⟩ : ∃ W, w1.alloc (.cells #[.int .i64 0, .int .i64 0, .int .i64 0] 41) = W := ⟨_, rfl⟩
    have hR := range_new w1 #[.int .i64 0, .int .i64 0, .int .i64 0] 41
    have hF := fun j => new_free w1 #[.int .i64 0, .int .i64 0, .int .i64 0] 41 j
    have hb1 : Below w1.heap.size w1 (w1.alloc (.cells #[.int .i64 0, .int .i64 0, .int .i64 0] 41)) := (Below.refl _ _).alloc (Nat.le_refl _) _
    rw [hW1] at hR hF hb1
    have hr0 := hR 0 _ rfl
    have hr1 := hR 1 _ rfl
    have hr2 := hR 2 _ rfl
    simp only [Nat.zero_add] at hr0 hr1 hr2
    clear hR
    have HB := Lib.hid (hb.trans (hb1.mono hb.size))
    have hz := hb.size
    have h11 := hb1.size
    replace hc0 := cell_later hb1 hc0
    replace hc1 := cell_later hb1 hc1
    replace hc2 := cell_later hb1 hc2
    clear hb hb1
    obtain ⟨g, hg⟩ : ∃ g, w1.heap.size = g := ⟨_, rfl⟩
    rw [hg] at hF hr0 hr1 hr2 hbb h11
    have hw1 : w.heap.size ≤ g := by rw [← hg]; exact hz
    have HA := Lib.hid (show AR b off g p0 p1 p2 0 0 0 W1 from ⟨⟨hc0, hc1, hc2⟩, ⟨hr0, hr1, hr2⟩, hF⟩)
    have hbg : b ≠ g := by omega
    obtain ⟨d0, hd0⟩ : ∃ d, digN p0.data.toList = d := ⟨_, rfl⟩
    obtain ⟨d1, hd1⟩ : ∃ d, digN p1.data.toList = d := ⟨_, rfl⟩
    obtain ⟨d2, hd2⟩ : ∃ d, digN p2.data.toList = d := ⟨_, rfl⟩
    unfold DigR at D0 D1 D2
    rw [hd0] at D0 D3
    rw [hd1] at D1 D3
    rw [hd2] at D2 D3
    have HD := Lib.hid (show dateOkB d0 d1 d2 = false → dateRead s.data.toList = none from fun h => rd_bad HC.out (by rw [hd0, hd1, hd2]; exact h))
    have HY := Lib.hid (show dateOkB d0 d1 d2 = true → dateRead s.data.toList = if dateL (dayNo d0 d1 d2) = s.data.toList then some (dayNo d0 d1 d2) else none from fun h => by
      have := rd_yes HC.out (by rw [hd0, hd1, hd2]; exact h)
      rw [hd0, hd1, hd2] at this
      exact this)
    clear hF hr0 hr1 hr2 hc0 hc1 hc2 hd0 hd1 hd2
    go_wp2_with fail
    try rw [hW1]
    try rw [hg]
    clear hg hW1
    go_loopw [17] (fun i wr => ∃ k : Nat, k ≤ 3 ∧ i = .int .i64 k ∧ Below w.heap.size w wr ∧ Hid ((k = 0 ∧ AR b off g p0 p1 p2 0 0 0 wr) ∨ (k = 1 ∧ AR b off g p0 p1 p2 d0 0 0 wr) ∨ (k = 2 ∧ AR b off g p0 p1 p2 d0 d1 0 wr) ∨ (k = 3 ∧ AR b off g p0 p1 p2 d0 d1 d2 wr))) (fun i _ => 3 - (intOf i).toNat)
    case atStart => exact ⟨0, by omega, rfl, HB.out, Lib.hid (.inl ⟨rfl, HA.out⟩)⟩
    case round =>
      obtain ⟨k, hk, rfl, hb, HR⟩ := hrel
      have hbS := fun j v => hb.setCell (p := ⟨g, j, none⟩) hw1 v
      rcases HR.out with ⟨rfl, hA⟩ | ⟨rfl, hA⟩ | ⟨rfl, hA⟩ | ⟨rfl, hA⟩
      · have HN := Lib.hid (hA.set hbg d0).1
        obtain ⟨⟨a0, a1, a2⟩, ⟨c0, c1, c2⟩, hf⟩ := hA
        have hf0 := hf 0
        clear HR hf HA HB
        go_wp2_with fail
        refine (D0 _).mono ?_
        rintro e w' ⟨⟨bb, rfl⟩, rfl⟩
        go_wp2
        first | (refine ⟨⟨1, by omega, by go_num, hbS _ _, Lib.hid (.inr (.inl ⟨rfl, HN.out⟩))⟩, ?_⟩; (first | (simp [intOf]; done) | (simp [intOf]; omega))) | (go_roundw; (case rel => first | exact ⟨1, by omega, by go_num, hbS _ _, Lib.hid (.inr (.inl ⟨rfl, HN.out⟩))⟩ | ((try refine ⟨trivial, ?_⟩); (repeat apply Exists.intro); exact ⟨⟨1, by omega, by go_num, hbS _ _, Lib.hid (.inr (.inl ⟨rfl, HN.out⟩))⟩, rfl⟩)); (case measure => (first | (simp [intOf]; done) | (simp [intOf]; omega))))
      · have HN := Lib.hid (hA.set hbg d1).2.1
        obtain ⟨⟨a0, a1, a2⟩, ⟨c0, c1, c2⟩, hf⟩ := hA
        have hf0 := hf 1
        clear HR hf HA HB
        go_wp2_with fail
        refine (D1 _).mono ?_
        rintro e w' ⟨⟨bb, rfl⟩, rfl⟩
        go_wp2
        first | (refine ⟨⟨2, by omega, by go_num, hbS _ _, Lib.hid (.inr (.inr (.inl ⟨rfl, HN.out⟩)))⟩, ?_⟩; (first | (simp [intOf]; done) | (simp [intOf]; omega))) | (go_roundw; (case rel => first | exact ⟨2, by omega, by go_num, hbS _ _, Lib.hid (.inr (.inr (.inl ⟨rfl, HN.out⟩)))⟩ | ((try refine ⟨trivial, ?_⟩); (repeat apply Exists.intro); exact ⟨⟨2, by omega, by go_num, hbS _ _, Lib.hid (.inr (.inr (.inl ⟨rfl, HN.out⟩)))⟩, rfl⟩)); (case measure => (first | (simp [intOf]; done) | (simp [intOf]; omega))))
      · have HN := Lib.hid (hA.set hbg d2).2.2
        obtain ⟨⟨a0, a1, a2⟩, ⟨c0, c1, c2⟩, hf⟩ := hA
        have hf0 := hf 2
        clear HR hf HA HB
        go_wp2_with fail
        refine (D2 _).mono ?_
        rintro e w' ⟨⟨bb, rfl⟩, rfl⟩
        go_wp2
        first | (refine ⟨⟨3, by omega, by go_num, hbS _ _, Lib.hid (.inr (.inr (.inr ⟨rfl, HN.out⟩)))⟩, ?_⟩; (first | (simp [intOf]; done) | (simp [intOf]; omega))) | (go_roundw; (case rel => first | exact ⟨3, by omega, by go_num, hbS _ _, Lib.hid (.inr (.inr (.inr ⟨rfl, HN.out⟩)))⟩ | ((try refine ⟨trivial, ?_⟩); (repeat apply Exists.intro); exact ⟨⟨3, by omega, by go_num, hbS _ _, Lib.hid (.inr (.inr (.inr ⟨rfl, HN.out⟩)))⟩, rfl⟩)); (case measure => (first | (simp [intOf]; done) | (simp [intOf]; omega))))
      · obtain ⟨_, ⟨c0, c1, c2⟩, _⟩ := hA
        clear HR HA HB hbS D0 D1 D2
        go_wp2_with fail
        refine (D3 _).mono ?_
        rintro e w2 ⟨rfl, hb2⟩
        replace hb := hb.trans (hb2.mono hb.size)
        clear D3
        rcases hk : dateOkB d0 d1 d2 with _ | _
        · have E := Lib.hid (dt_no (HD.out hk))
          rw [dnC_no hk]
          clear hk
          go_wp2
          go_ret2
          exact ⟨ret_ib E.out, hb⟩
        · have H1 := Lib.hid (HY.out hk)
          have hle := dayNo_le (dateOkB_iff.1 hk)
          rw [(dn_is hk).1, (dn_is hk).2]
          obtain ⟨D, hDD⟩ : ∃ D, dayNo d0 d1 d2 = D := ⟨_, rfl⟩
          rw [hDD] at H1 hle ⊢
          have hT := fun W h => i_DateText D W hle h
          obtain ⟨T, hTT⟩ : ∃ T, ofL (dateL D) = T := ⟨_, rfl⟩
          have hTd : dateL D = T.data.toList := by rw [← hTT, ofL_data]
          rw [hTT] at hT
          clear hk hDD hTT
          go_wp2_with fail
          refine (hT _ (hL.below hb)).mono ?_
          rintro e w3 ⟨rfl, hb3⟩
          replace hb := hb.trans (hb3.mono hb.size)
          clear hT
          by_cases he : T.data.toList = s.data.toList
          · have E := Lib.hid (dt_yes (H1.out.trans (if_pos (hTd.trans he))))
            have ht : (T.toList == s.toList) = true := by rw [ByteArray.toList_eq, ByteArray.toList_eq, beq_iff_eq]; exact he
            clear he hTd
            go_wp2
            go_ret2
            exact ⟨ret_ib E.out, hb⟩
          · have E := Lib.hid (dt_no (H1.out.trans (if_neg fun h => he (hTd.symm.trans h))))
            have ht : (T.toList == s.toList) = false := by rw [ByteArray.toList_eq, ByteArray.toList_eq, beq_eq_false_iff_ne]; exact he
            clear he hTd
            go_wp2
            go_ret2
            exact ⟨ret_ib E.out, hb⟩
  · have E := Lib.hid (dt_no (rd_len (l := s.data.toList) (by have hcl : (cutsB 45 s).length = (cutsL 45 s.data.toList).length := (by unfold cutsB; simp); omega)))
    have hne : ((n : Int) == 3) = false := by rw [beq_eq_false_iff_ne]; omega
    clear hl hgl h3
    go_wp2
    go_ret2
    exact ⟨ret_ib E.out, hb⟩

end Go.Proofs.YtdkpgcnjlamcbaaGreatDoor
