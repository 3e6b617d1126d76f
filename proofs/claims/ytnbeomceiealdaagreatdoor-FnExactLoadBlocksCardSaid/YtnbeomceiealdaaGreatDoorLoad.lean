/- The blocks of a whole text: both sides. -/
import Derived.Test.YtnbeomceiealdaaGreatDoorRows
import Derived.Test.YtnbeomceiealdaaGreatDoorHead
import Derived.Test.YtnbeomceiealdaaGreatDoorReportLaw
import Derived.Test.YtnbeomceiealdaaGreatDoorRestS
namespace Go.Proofs.YtnbeomceiealdaaGreatDoor
set_option linter.unusedVariables false
set_option linter.unusedSimpArgs false
set_option linter.unusedSectionVars false
open Go.RowKit

/-- what a function that returns a list and two codes leaves -/
def RetLCC {α : Type} (E : Enc α) (et : TypeId) (l : List α) (a b : Int) (w : World) (e : Ending) (w' : World) : Prop :=
  ∃ A n c, l.length = n ∧ n ≤ 4194304 ∧ w'.ownsRow w.heap.size et E.k (.slice A n c) n (l.flatMap E.cells) ∧ e = .returned (.tuple #[.slice A n c, .int .i64 a, .int .i64 b]) ∧ Below w.heap.size w w'
theorem RetLCC.nil {α : Type} {E : Enc α} {et : TypeId} {l : List α} {a b a' b' : Int} {w w' : World} (hl : l = []) (ha : a = a') (hb' : b = b') (hb : Below w.heap.size w w') :
    RetLCC E et l a b w (.returned (.tuple #[.slice none 0 0, .int .i64 a', .int .i64 b'])) w' := by
  subst hl ha hb'
  exact ⟨none, 0, 0, rfl, by omega, ⟨by simp, .inl ⟨rfl, rfl⟩⟩, rfl, hb⟩
theorem RetLCC.mk {α : Type} {E : Enc α} {et : TypeId} {l m : List α} {a b a' b' : Int} {A : Option Addr} {n c : Nat} {w w' : World} (hg : GL E et w.heap.size w' (.slice A n c) m) (hn : n ≤ 4194304) (hl : l = m) (ha : a = a') (hb' : b = b') (hb : Below w.heap.size w w') :
    RetLCC E et l a b w (.returned (.tuple #[.slice A n c, .int .i64 a', .int .i64 b'])) w' := by
  subst hl ha hb'
  exact ⟨A, n, c, hg.own.1, hn, hg.own.2, rfl, hb⟩
theorem Tryz.info_Blk : (Tryz.prog.info? 34).map (fun i => (i.zero, i.size, i.bytes)) = some (some (.agg #[.string ⟨#[]⟩, .string ⟨#[]⟩, .string ⟨#[]⟩]), 3, 48) := by kernel_rfl
theorem okAfter_nil (b : DBlock) : okAfter [] b = true := rfl
theorem okAfter_last {r : List DBlock} {j : Nat} {p b : DBlock} (hl : r.length = j + 1) (hp : r[j]? = some p) : okAfter r b = decide (cmpBl p b < 0) := by
  unfold okAfter
  rw [List.getLast?_eq_getElem?, hl, Nat.add_sub_cancel, hp]

theorem s_l29BeforeB (b off b' off' : Nat) (x y : DBlock) (w : World) (hc : w.rangeAt b off (blockE.cells x)) (hd : w.rangeAt b' off' (blockE.cells y)) (r : Bool) (hr : decide (cmpBl x y < 0) = r) :
    Calls Tryz.prog 12 #[.pointer (some ⟨b, off, none⟩), .pointer (some ⟨b', off', none⟩)] w fun e w' => e = .returned (.bool r) ∧ Below w.heap.size w w' :=
  (s_l29Before b off b' off' x y w hc hd).mono fun e w' ⟨he, m, hm⟩ => ⟨by rw [he, hr], by rw [hm]; exact below_drewN (Below.refl _ _) _⟩
set_option maxRecDepth 100000 in
set_option maxHeartbeats 4000000 in
theorem S_LoadBlocks (s : ByteArray) (w : World) (hs : s.size ≤ 1048576) :
    Calls Tryz.prog 4 #[.string s] w (RetLCC blockE 34 (loadF s).list (loadF s).line (loadF s).code w) := by
  obtain ⟨m, p, hlen, hp⟩ := cuts_last_get s
  obtain ⟨j0, gi, gz0, gz1, gz2⟩ := info_parts Tryz.info_Blk
  have GZ := Lib.hid (And.intro gz0 gz1); clear gz0 gz1
  have HSZ := Lib.hid (fun x (hx : x ∈ cutsB 10 s) => cuts_small hx)
  have hlines := s_l29Lines s w hs hlen hp
  have hlf := loadF_at hlen hp
  have HLEN := Lib.hid hlen
  obtain ⟨B, hB⟩ : ∃ B, (p.toList == []) = B := ⟨_, rfl⟩
  rw [hB] at hlines hlf
  rw [hlf]
  clear hp hlen hB hlf
  go_enter Tryz.func4, Tryz.ntmps4
  go_wp2_with fail
  refine hlines.mono ?_
  rintro e w1 ⟨A, c, hm3, rfl, hrd, hb1⟩
  clear hlines
  cases B with
  | false =>
    have E := Lib.hid (loadW_open (cutsB 10 s) m)
    go_wp2
    go_ret3
    exact RetLCC.nil (by rw [E.out]) (by rw [E.out]) (by rw [E.out]) hb1
  | true =>
    rcases Nat.eq_zero_or_pos m with hm0 | hm0
    · subst hm0
      have E := Lib.hid (loadW_none (cutsB 10 s) true)
      go_wp2
      go_ret3
      exact RetLCC.nil (by rw [E.out]) (by rw [E.out]) (by rw [E.out]) hb1
    · have hmne : ((m : Int) == 0) = false := by rw [beq_eq_false_iff_ne]; omega
      obtain ⟨b, off, x0, hA, hx0, hc0⟩ := hrd.get (k := 0) hm0
      subst hA
      have hcx := hc0 0 (.string x0) rfl
      simp only [strE, Nat.mul_one, Nat.zero_mul, Nat.add_zero] at hcx
      rw [List.getElem?_take_of_lt hm0] at hx0
      have hxs := HSZ.out x0 (List.mem_of_getElem? hx0)
      have hhd := s_l29Head x0 w1 (by omega)
      have HX0 := Lib.hid hx0
      unfold HeadR at hhd
      clear hc0 hx0
      cases hH : headO (bl x0) with
      | none =>
        have E := Lib.hid (loadW_head hm0 HX0.out hH)
        rw [headOk_none hH] at hhd
        clear hH
        go_wp2_with fail
        refine hhd.mono ?_
        rintro e w2 ⟨v, HV, rfl, hb2⟩
        have hbF := hb1.trans (hb2.mono hb1.size)
        clear hhd
        go_wp2
        go_ret3
        exact RetLCC.nil (by rw [E.out]) (by rw [E.out]) (by rw [E.out]) hbF
      | some n0 =>
        rw [headOk_some hH] at hhd
        have HH := Lib.hid hH
        clear hH
        go_wp2_with fail
        refine hhd.mono ?_
        rintro e w2 ⟨v, HV, rfl, hb2⟩
        obtain rfl : n0 = v := (HV.out n0 HH.out).symm
        have hbF := hb1.trans (hb2.mono hb1.size)
        have hrd2 := hrd.below hb2
        clear hhd HV hcx hrd hb2 hb1
        have hz2 := hbF.size
        have hgl0 : GL blockE 34 w2.heap.size (w2.alloc (.cells #[] 34)) (.slice (some ⟨w2.heap.size, 0, none⟩) 0 0) [] := GL.mk0 (Nat.le_refl _)
        have hb0 : Below w2.heap.size w2 (w2.alloc (.cells #[] 34)) := (Below.refl _ _).alloc (Nat.le_refl _) _
        go_wp2_with fail
        go_loopw [9, 10] (fun v i wr => ∃ (k : Nat) (r : List DBlock) (A' : Option Addr) (c' : Nat), k ≤ m - 1 ∧ i = .int .i64 ((k : Int) + 1) ∧ v = .slice A' k c' ∧ GL blockE 34 w2.heap.size wr (.slice A' k c') r ∧ Below w2.heap.size w2 wr ∧ Hid (loadT (cutsB 10 s) k = .inr r)) (fun _ i _ => m - (intOf i).toNat)
        case atStart => exact ⟨0, [], _, _, Nat.zero_le _, rfl, rfl, hgl0, hb0, Lib.hid rfl⟩
        case round =>
          clear hb0 hgl0
          obtain ⟨k, r, A', c', hk, rfl, rfl, hgl, hb, HR⟩ := hrel
          have hbr := hbF.trans (hb.mono hbF.size)
          by_cases hlt : k + 1 < m
          · have hltI : ((k : Int) + 1) < (m : Int) := by omega
            obtain ⟨b', off', x, hA, hx, hc⟩ := hrd2.get hlt
            cases hA
            have hc0 := range_below (B := 0) hc hb 0 (.string x) rfl
            simp only [strE, Nat.mul_one, Nat.add_zero] at hc0
            rw [List.getElem?_take_of_lt hlt] at hx
            have hxs := HSZ.out x (List.mem_of_getElem? hx)
            have hpx := s_l29Parse x wr (by omega)
            have HX := Lib.hid hx
            unfold ParseR at hpx
            clear hc hx
            have hw2 : IntKind.i64.wrap ((k : Int) + 1) = (k : Int) + 1 := wrap64 (by omega)
            rcases codeP_vals (bl x) with hcd | hcd | hcd
            · rw [hcd] at hpx
              have HCD := Lib.hid hcd
              clear hcd
              go_wp2_with fail
              refine hpx.mono ?_
              rintro e w3 ⟨y, Hy, rfl, hb3⟩
              clear hpx
              have hgl3 := hgl.below hb3
              have hbN := hb.trans (hb3.mono hb.size)
              have hx3R := range_new w3 #[.string y.fKind, .string y.fName, .string y.fText] 34
              have hbw : Below w3.heap.size w3 (w3.alloc (.cells #[.string y.fKind, .string y.fName, .string y.fText] 34)) := (Below.refl _ _).alloc (Nat.le_refl _) _
              obtain ⟨W3, hW3⟩ : ∃ W3, w3.alloc (.cells #[.string y.fKind, .string y.fName, .string y.fText] 34) = W3 := ⟨_, rfl⟩
              rw [hW3] at hx3R hbw
              have hglW := hgl3.below hbw
              have hbW := hbN.trans (hbw.mono hbN.size)
              have hy0 := hx3R 0 _ rfl
              have hy1 := hx3R 1 _ rfl
              have hy2 := hx3R 2 _ rfl
              simp only [Nat.zero_add] at hy0 hy1 hy2
              have hlo := hglW.lt
              have hbz := hbW.size
              have hb3z := hb3.size
              rcases Nat.eq_zero_or_pos k with hk0 | hk0
              · have hrl := load_len HR.out
                have hr0 : r = [] := List.eq_nil_of_length_eq_zero (by omega)
                have HK : Hid (loadT (cutsB 10 s) (k + 1) = .inr (r ++ [y])) := Lib.hid (by
                  rw [Hy.out]
                  exact load_step HX.out HR.out HCD.out (by rw [hr0]; rfl))
                have hkI : ¬ (0 : Int) < (k : Int) := by omega
                subst hk0
                clear hrl hr0 hkI hx3R
                go_wp2_with (at_builtin; refine wpList_pushO blockE rfl _ _ 22 rfl w2.heap.size 34 j0 _ 48 Tryz.underlying22 gi GZ.out.1 GZ.out.2 gz2 rfl A' 0 c' r y rfl (hglW.alloc _) W3.heap.size rfl (range_new _ _ _) (by omega) (by decide) (by first | (simp; done) | (simp; omega)) ?_; intro A2 c2 w6 hgl6 ht6 _)
                have hb6 := Below.touch (hbW.alloc hbz (.cells #[.string y.fKind, .string y.fName, .string y.fText] 34)) ht6 (fun q hq => (hlo q hq).1) (by first | (simp; done) | (simp; omega))
                first | (refine ⟨⟨0 + 1, r ++ [y], A2, c2, by omega, by go_num, rfl, hgl6, hb6, HK⟩, ?_⟩; (first | (simp [intOf]; done) | (simp [intOf]; omega))) | (go_roundw; (case rel => first | exact ⟨0 + 1, r ++ [y], A2, c2, by omega, by go_num, rfl, hgl6, hb6, HK⟩ | ((try refine ⟨trivial, ?_⟩); (repeat apply Exists.intro); exact ⟨⟨0 + 1, r ++ [y], A2, c2, by omega, by go_num, rfl, hgl6, hb6, HK⟩, rfl⟩)); (case measure => (first | (simp [intOf]; done) | (simp [intOf]; omega))))
              · obtain ⟨j, rfl⟩ : ∃ j, k = j + 1 := ⟨k - 1, by omega⟩
                have hrl := load_len HR.out
                obtain ⟨b9, o9, p9, hA9, hp9, hc9⟩ := hglW.rd.get (k := j) (by omega)
                subst hA9
                have hoa := okAfter_last (b := y) hrl hp9
                have hjI : (0 : Int) < ((j + 1 : Nat) : Int) := by omega
                by_cases hcm : cmpBl p9 y < 0
                · have hbf := s_l29BeforeB b9 (o9 + j * 3) w3.heap.size 0 p9 y W3 hc9 hx3R true (decide_eq_true hcm)
                  have HK : Hid (loadT (cutsB 10 s) (j + 1 + 1) = .inr (r ++ [y])) := Lib.hid (by
                    rw [Hy.out]
                    exact load_step HX.out HR.out HCD.out (by rw [← Hy.out, hoa]; exact decide_eq_true hcm))
                  clear hoa hcm hx3R hrl hc9 hp9 hk0
                  go_wp2_with fail
                  try rw [hW3]
                  clear hW3
                  refine hbf.mono ?_
                  rintro e w5 ⟨rfl, hb5⟩
                  have hgl5 := hglW.below hb5
                  have hbQ := hbW.trans (hb5.mono hbW.size)
                  replace hy0 := cell_later hb5 hy0
                  replace hy1 := cell_later hb5 hy1
                  replace hy2 := cell_later hb5 hy2
                  have hlo5 := hgl5.lt
                  have hbz5 := hbQ.size
                  clear hbf hb5
                  go_wp2_with (at_builtin; refine wpList_pushO blockE rfl _ _ 22 rfl w2.heap.size 34 j0 _ 48 Tryz.underlying22 gi GZ.out.1 GZ.out.2 gz2 rfl (some ⟨b9, o9, none⟩) (j + 1) c' r y rfl (hgl5.alloc _) w5.heap.size rfl (range_new _ _ _) (by omega) (by decide) (by first | (simp; done) | (simp; omega)) ?_; intro A2 c2 w6 hgl6 ht6 _)
                  have hb6 := Below.touch (hbQ.alloc hbz5 (.cells #[.string y.fKind, .string y.fName, .string y.fText] 34)) ht6 (fun q hq => (hlo5 q hq).1) (by first | (simp; done) | (simp; omega))
                  first | (refine ⟨⟨j + 1 + 1, r ++ [y], A2, c2, by omega, by go_num, rfl, hgl6, hb6, HK⟩, ?_⟩; (first | (simp [intOf]; done) | (simp [intOf]; omega))) | (go_roundw; (case rel => first | exact ⟨j + 1 + 1, r ++ [y], A2, c2, by omega, by go_num, rfl, hgl6, hb6, HK⟩ | ((try refine ⟨trivial, ?_⟩); (repeat apply Exists.intro); exact ⟨⟨j + 1 + 1, r ++ [y], A2, c2, by omega, by go_num, rfl, hgl6, hb6, HK⟩, rfl⟩)); (case measure => (first | (simp [intOf]; done) | (simp [intOf]; omega))))
                · have hbf := s_l29BeforeB b9 (o9 + j * 3) w3.heap.size 0 p9 y W3 hc9 hx3R false (decide_eq_false hcm)
                  have E := Lib.hid (loadW_err hm0 HX0.out HH.out (load_at (load_order HX.out HR.out HCD.out (by rw [← Hy.out, hoa]; exact decide_eq_false hcm)) (by omega : j + 1 + 1 ≤ m - 1)))
                  clear hoa hcm hx3R hrl hc9 hp9 hk0
                  go_wp2_with fail
                  try rw [hW3]
                  clear hW3
                  refine hbf.mono ?_
                  rintro e w5 ⟨rfl, hb5⟩
                  have hbQ := hbF.trans ((hbW.trans (hb5.mono hbW.size)).mono hbF.size)
                  clear hbf
                  go_wp2
                  go_ret3
                  exact RetLCC.nil (by rw [E.out]) (by rw [E.out]; show ((j + 1 : Nat) : Int) + 2 = _; simp; omega) (by rw [E.out]) hbQ
            · have E := Lib.hid (loadW_err hm0 HX0.out HH.out (load_at (load_code HX.out HR.out (by rw [hcd]; decide)) (by omega : k + 1 ≤ m - 1)))
              rw [hcd] at hpx E
              clear hcd
              go_wp2_with fail
              refine hpx.mono ?_
              rintro e w3 ⟨y, Hy, rfl, hb3⟩
              have hbQ := hbr.trans ((hb3.mono hbr.size).alloc (Nat.le_trans hbr.size hb3.size) (.cells #[.string y.fKind, .string y.fName, .string y.fText] 34))
              clear hpx
              go_wp2
              go_ret3
              exact RetLCC.nil (by rw [E.out]) (by rw [E.out]; show (k : Int) + 2 = _; omega) (by rw [E.out]) hbQ
            · have E := Lib.hid (loadW_err hm0 HX0.out HH.out (load_at (load_code HX.out HR.out (by rw [hcd]; decide)) (by omega : k + 1 ≤ m - 1)))
              rw [hcd] at hpx E
              clear hcd
              go_wp2_with fail
              refine hpx.mono ?_
              rintro e w3 ⟨y, Hy, rfl, hb3⟩
              have hbQ := hbr.trans ((hb3.mono hbr.size).alloc (Nat.le_trans hbr.size hb3.size) (.cells #[.string y.fKind, .string y.fName, .string y.fText] 34))
              clear hpx
              go_wp2
              go_ret3
              exact RetLCC.nil (by rw [E.out]) (by rw [E.out]; show (k : Int) + 2 = _; omega) (by rw [E.out]) hbQ
          · have hkm : k = m - 1 := by omega
            have hltI : ¬ ((k : Int) + 1) < (m : Int) := by omega
            have hrl := load_len HR.out
            by_cases hn : (k : Int) = n0
            · have E := Lib.hid (loadW_ok hm0 HX0.out HH.out (by rw [← hkm]; exact HR.out) (by rw [hrl]; exact hn))
              have hnb : ((k : Int) != n0) = false := by rw [hn]; simp
              clear hkm hn
              go_wp2
              go_ret3
              exact RetLCC.mk (hgl.mono hz2) (by omega) (by rw [E.out]) (by rw [E.out]) (by rw [E.out]) hbr
            · have E := Lib.hid (loadW_count hm0 HX0.out HH.out (by rw [← hkm]; exact HR.out) (by rw [hrl]; exact hn))
              have hnb : ((k : Int) != n0) = true := by rw [bne_iff_ne]; exact hn
              clear hkm hn
              go_wp2
              go_ret3
              exact RetLCC.nil (by rw [E.out]) (by rw [E.out]) (by rw [E.out]) hbr

theorem suf_cases {s : ByteArray} {m : Nat} {p : ByteArray} (hl : (cutsB 10 s).length = m + 1) (hp : (cutsB 10 s)[m]? = some p) :
    (Lib.hasSuffix (bl s) [10] = false ∧ (m = 0 ∨ (p.toList == []) = false)) ∨ (Lib.hasSuffix (bl s) [10] = true ∧ 0 < m ∧ (p.toList == []) = true ∧ cutsB 10 (ofL (bl s).dropLast) = (cutsB 10 s).take m) := by
  by_cases h0 : s.data.toList = []
  · left
    refine ⟨?_, .inl ?_⟩
    · rw [show bl s = [] from h0]; rfl
    · have := (linesOf_nil h0).2
      rw [this] at hl
      simp at hl
      omega
  · by_cases h1 : [10] <:+ s.data.toList
    · right
      obtain ⟨_, h2⟩ := linesOf_some h0 h1
      have h3 : (cutsB 10 (ofL s.data.toList.dropLast)).length = m := by rw [h2] at hl; simp at hl; exact hl
      refine ⟨List.isSuffixOf_iff_suffix.2 h1, ?_, ?_, ?_⟩
      · rw [← h3]
        unfold cutsB
        rw [List.length_map, cutsL_len]
        omega
      · rw [h2, List.getElem?_append_right (by omega), h3, Nat.sub_self] at hp
        cases hp
        rw [ByteArray.toList_eq]
        rfl
      · rw [h2, List.take_left' h3]
    · left
      obtain ⟨_, q, p', h2, h3⟩ := linesOf_none h0 h1
      refine ⟨?_, .inr ?_⟩
      · cases h4 : Lib.hasSuffix (bl s) [10]
        · rfl
        · exact absurd (List.isSuffixOf_iff_suffix.1 h4) h1
      · have h5 : q.length = m := by rw [h2] at hl; simp at hl; exact hl
        rw [h2, List.getElem?_append_right (by omega), h5, Nat.sub_self] at hp
        cases hp
        rw [ByteArray.toList_eq, beq_eq_false_iff_ne]
        exact h3

set_option maxRecDepth 100000 in
set_option maxHeartbeats 8000000 in
theorem I_LoadBlocks (s : ByteArray) (w : World) (hs : s.size ≤ 1048576) (hL : LibW w) :
    Calls Tryz.prog 5 #[.string s] w (RetLCC blockE 34 (loadF s).list (loadF s).line (loadF s).code w) := by
  obtain ⟨m, p, hlen, hp⟩ := cuts_last_get s
  obtain ⟨j0, gi, gz0, gz1, gz2⟩ := info_parts Tryz.info_Blk
  have GZ := Lib.hid (And.intro gz0 gz1); clear gz0 gz1
  have HSZ := Lib.hid (fun x (hx : x ∈ cutsB 10 s) => cuts_small hx)
  have hlf := loadF_at hlen hp
  have HLEN := Lib.hid hlen
  have hcs := Tryz.strings_CutSuffix s ⟨#[10]⟩ w (by omega)
  rw [show (⟨#[10]⟩ : ByteArray).data.toList = [10] from rfl, show s.data.toList = bl s from rfl] at hcs
  rcases suf_cases hlen hp with ⟨h1, h2⟩ | ⟨h1, hm0, h2, h3⟩
  · rw [h1] at hcs
    have E : Hid (loadF s = ⟨[], 0, 11⟩) := Lib.hid (by
      rw [hlf]
      rcases h2 with h2 | h2
      · rw [h2]; exact loadW_none _ _
      · rw [h2]; rfl)
    obtain ⟨T, hT⟩ : ∃ T : ByteArray, (⟨(Lib.trimSuffix (bl s) [10]).toArray⟩ : ByteArray) = T := ⟨_, rfl⟩
    rw [hT] at hcs
    clear h1 h2 hlf hp hlen hT
    go_enter Tryz.func5, Tryz.ntmps5
    go_wp2_with fail
    refine hcs.mono ?_
    rintro e w1 ⟨rfl, rfl⟩
    clear hcs
    go_wp2
    go_ret3
    exact RetLCC.nil (by rw [E.out]) (by rw [E.out]) (by rw [E.out]) (Below.refl _ _)
  · have hb0 : (⟨(Lib.trimSuffix (bl s) [10]).toArray⟩ : ByteArray) = ofL (bl s).dropLast := by
      unfold Lib.trimSuffix
      rw [h1, if_pos rfl, List.dropLast_eq_take]
      rfl
    rw [hb0, h1] at hcs
    rw [h2] at hlf
    rw [hlf]
    obtain ⟨B, hBd⟩ : ∃ B, ofL (bl s).dropLast = B := ⟨_, rfl⟩
    have hBs : B.size ≤ 1048576 := by
      rw [← hBd, ofL_size, List.length_dropLast, bl_size]
      omega
    rw [hBd] at hcs h3
    have hsp := fun W (h : LibW W) => i_Split B 10 W hBs h
    rw [h3] at hsp
    have hml : ((cutsB 10 s).take m).length = m := by rw [List.length_take]; omega
    rw [hml] at hsp
    obtain ⟨x0, hx0⟩ : ∃ x, (cutsB 10 s)[0]? = some x := ⟨_, List.getElem?_eq_getElem (by omega)⟩
    have hxs := HSZ.out x0 (List.mem_of_getElem? hx0)
    have HX0 := Lib.hid hx0
    have hHD := fun W (h : LibW W) => i_countOf x0 W (by omega) h
    unfold HeadR at hHD
    clear hb0 h1 h2 hlf hp hlen hBd h3 hx0
    go_enter Tryz.func5, Tryz.ntmps5
    go_wp2_with fail
    refine hcs.mono ?_
    rintro e w1 ⟨rfl, rfl⟩
    clear hcs
    have hspw := hsp _ hL
    clear hsp
    go_wp2_with fail
    refine hspw.mono ?_
    rintro e w2 ⟨A, n, c, hl, hn, rfl, hglL, hb1⟩
    obtain rfl : m = n := hl
    clear hspw
    obtain ⟨g, rfl⟩ := hglL.place hm0
    have hcapL := hglL.cap
    have hrd := hglL.rd
    obtain ⟨b9, o9, x9, hA, hx9, hc9⟩ := hrd.get (k := 0) hm0
    cases hA
    rw [List.getElem?_take_of_lt hm0] at hx9
    obtain rfl : x0 = x9 := Option.some.inj (HX0.out.symm.trans hx9)
    have hcx := hc9 0 (.string x0) rfl
    simp only [strE, Nat.mul_one, Nat.zero_mul, Nat.add_zero] at hcx
    have hhd := hHD _ (hL.below hb1)
    have hcm1 := hcapL.1
    have hcm2 := hcapL.2
    unfold maxLen at hcm2
    clear hc9 hx9 hHD hglL hcapL
    cases hH : headO (bl x0) with
    | none =>
      have E := Lib.hid (loadW_head hm0 HX0.out hH)
      rw [headOk_none hH] at hhd
      clear hH
      go_wp2_with fail
      refine hhd.mono ?_
      rintro e w3 ⟨v, HV, rfl, hb2⟩
      have hbF := hb1.trans (hb2.mono hb1.size)
      clear hhd
      go_wp2
      go_ret3
      exact RetLCC.nil (by rw [E.out]) (by rw [E.out]) (by rw [E.out]) hbF
    | some n0 =>
      rw [headOk_some hH] at hhd
      have HH := Lib.hid hH
      clear hH
      go_wp2_with fail
      refine hhd.mono ?_
      rintro e w3 ⟨v, HV, rfl, hb2⟩
      obtain rfl : n0 = v := (HV.out n0 HH.out).symm
      have hbF := hb1.trans (hb2.mono hb1.size)
      have hrd2 := hrd.below hb2
      have HLW := Lib.hid (hL.below hbF)
      clear hhd HV hcx hrd hb2 hb1
      have hz2 := hbF.size
      have hgl0 : GL blockE 34 w3.heap.size (w3.alloc (.cells #[] 34)) (.slice (some ⟨w3.heap.size, 0, none⟩) 0 0) [] := GL.mk0 (Nat.le_refl _)
      have hb0 : Below w3.heap.size w3 (w3.alloc (.cells #[] 34)) := (Below.refl _ _).alloc (Nat.le_refl _) _
      obtain ⟨i0, hi, hz0, hz1, hz2'⟩ := info_parts Tryz.info_str
      have hsize : ∀ w, (Go.sizeOf 9).run Tryz.prog w = .ok 1 w := fun w => by simp [Go.sizeOf, typeInfo, hi, hz1]
      have hs2 : ∀ W, (Instr.slice 28 (.slice (some ⟨g, 0, none⟩) m c) (some (.int .i64 1)) none none).run Tryz.prog W = .ok (.slice (if c = 1 then (some ⟨g, 0, none⟩ : Option Addr) else (some ⟨g, 0, none⟩ : Option Addr).map (·.add (1 * 1))) (m - 1) (c - 1)) W := fun W => run_restR (P := Tryz.prog) W 28 9 1 Tryz.underlying28 hsize (some ⟨g, 0, none⟩ : Option Addr) m c 1 (by omega) hcm1
      obtain ⟨AD, hAD⟩ : ∃ AD : Option Addr, (if c = 1 then (some ⟨g, 0, none⟩ : Option Addr) else (some ⟨g, 0, none⟩ : Option Addr).map (·.add (1 * 1))) = AD := ⟨_, rfl⟩
      simp only [hAD] at hs2
      have hrest : 1 < m → Rd strE w3 AD (m - 1) (((cutsB 10 s).take m).drop 1) := fun h => by
        rw [← hAD, if_neg (by omega)]
        have := hrd2.drop 1 h
        rw [show (some ⟨g, 0, none⟩ : Option Addr).map (·.add (1 * 1)) = some ⟨g, 0 + 1 * strE.k, none⟩ by simp [addr_add, strE]]
        exact this
      clear hi hz0 hz1 hz2' hsize hAD
      go_wp2_with fail
      go_loopw [10, 37] (fun v i wr => ∃ (k : Nat) (r : List DBlock) (A' : Option Addr) (c' : Nat), k ≤ m - 1 ∧ i = .int .i64 k ∧ v = .slice A' k c' ∧ GL blockE 34 w3.heap.size wr (.slice A' k c') r ∧ Below w3.heap.size w3 wr ∧ Hid (loadT (cutsB 10 s) k = .inr r)) (fun _ i _ => m - (intOf i).toNat)
      case atStart => exact ⟨0, [], _, _, Nat.zero_le _, rfl, rfl, hgl0, hb0, Lib.hid rfl⟩
      case round =>
        clear hb0 hgl0
        obtain ⟨k, r, A', c', hk, rfl, rfl, hgl, hb, HR⟩ := hrel
        have hbr := hbF.trans (hb.mono hbF.size)
        by_cases hlt : k < m - 1
        · obtain ⟨b', off', x, hA, hx, hc⟩ := (hrest (by omega)).get hlt
          subst hA
          have hc0 := range_below (B := 0) hc hb 0 (.string x) rfl
          simp only [strE, Nat.mul_one, Nat.add_zero] at hc0
          rw [List.getElem?_drop, List.getElem?_take_of_lt (by omega), Nat.add_comm] at hx
          have hxs2 := HSZ.out x (List.mem_of_getElem? hx)
          have hpx := i_readBlock x wr (by omega) (HLW.out.below hb)
          have HX := Lib.hid hx
          unfold ParseR at hpx
          clear hc hx
          rcases codeP_vals (bl x) with hcd | hcd | hcd
          · rw [hcd] at hpx
            have HCD := Lib.hid hcd
            clear hcd
            have hrl := load_len HR.out
            rcases Nat.eq_zero_or_pos k with hk0 | hk0
            · have hr0 : r = [] := List.eq_nil_of_length_eq_zero (by omega)
              subst hk0
              rw [Nat.add_zero] at hc0
              clear hrl
              go_wp2_with fail
              refine hpx.mono ?_
              rintro e w5 ⟨y, Hy, rfl, hb5⟩
              clear hpx
              have hgl5 := hgl.below hb5
              have hbN := hb.trans (hb5.mono hb.size)
              have hx5R := range_new w5 #[.string y.fKind, .string y.fName, .string y.fText] 34
              have hbw : Below w5.heap.size w5 (w5.alloc (.cells #[.string y.fKind, .string y.fName, .string y.fText] 34)) := (Below.refl _ _).alloc (Nat.le_refl _) _
              obtain ⟨b5, hb5e⟩ : ∃ q, w5.heap.size = q := ⟨_, rfl⟩
              obtain ⟨w, hW5⟩ : ∃ w : World, w5.alloc (.cells #[.string y.fKind, .string y.fName, .string y.fText] 34) = w := ⟨_, rfl⟩
              rw [hW5] at hx5R hbw
              have hglW := hgl5.below hbw
              have hbW := hbN.trans (hbw.mono hbN.size)
              rw [hb5e] at hx5R
              have hy0 := hx5R 0 _ rfl
              have hy1 := hx5R 1 _ rfl
              have hy2 := hx5R 2 _ rfl
              simp only [Nat.zero_add] at hy0 hy1 hy2
              clear hbw hb5 hgl hgl5 hbN
              have HK : Hid (loadT (cutsB 10 s) (0 + 1) = .inr (r ++ [y])) := Lib.hid (by
                rw [Hy.out]
                exact load_step HX.out HR.out HCD.out (by rw [hr0]; rfl))
              clear hr0 hx5R
              go_wp2_with fail
              try rw [hb5e]
              try rw [hW5]
              clear hW5 hb5e
              let S : World → Prop := fun w' => w'.cell? ⟨b5, 0, none⟩ = some (.string y.fKind) ∧ w'.cell? ⟨b5, 1, none⟩ = some (.string y.fName) ∧ w'.cell? ⟨b5, 2, none⟩ = some (.string y.fText) ∧ Below w.heap.size w w'
              have hS : S (World.drew w) := ⟨hy0, hy1, hy2, (Below.refl _ _).drew⟩
              have hne : Nonempty (Wd S) := ⟨⟨_, hS⟩⟩
              have qc0 : ∀ t : Wd S, t.w.cell? ⟨b5, 0, none⟩ = some (.string y.fKind) := fun t => t.h.1
              have qc1 : ∀ t : Wd S, t.w.cell? ⟨b5, 1, none⟩ = some (.string y.fName) := fun t => t.h.2.1
              have qc2 : ∀ t : Wd S, t.w.cell? ⟨b5, 2, none⟩ = some (.string y.fText) := fun t => t.h.2.2.1
              have Q9 : Hid (∀ (t : Wd S) (w' : World), Below t.w.heap.size t.w w' → S w') := Lib.hid (fun t w' h => ⟨cell_later h t.h.1, cell_later h t.h.2.1, cell_later h t.h.2.2.1, t.h.2.2.2.trans (h.mono t.h.2.2.2.size)⟩)
              have QE : Hid (∀ w', S w' → w'.cell? ⟨b5, 0, none⟩ = some (.string y.fKind) ∧ w'.cell? ⟨b5, 1, none⟩ = some (.string y.fName) ∧ w'.cell? ⟨b5, 2, none⟩ = some (.string y.fText) ∧ Below w.heap.size w w') := Lib.hid (fun w' h => h)
              refine wp_region_class S (by kernel_rfl) (by kernel_rfl) hS ?_
              clear_value S
              repeat (go_big_quiet_step (fail))
              refine wpQuiet_nil ?_
              rintro _ ⟨⟨w1, hw1⟩, rfl⟩
              obtain ⟨hy0, hy1, hy2, hbC⟩ := QE.out _ hw1
              try dsimp only
              clear hw1 hS hne Q9 QE qc0 qc1 qc2
              obtain ⟨wc, rfl, hbC'⟩ := nameW hbC
              clear hbC
              have hbC := hbC'
              clear hbC'
              have hglC := hglW.below hbC
              have hbQ := hbW.trans (hbC.mono hbW.size)
              have hlo := hglC.lt
              have hbz := hbQ.size
              clear hglW hbW hbC
              go_wp2_with (at_builtin; refine wpList_pushO blockE rfl _ _ 22 rfl w3.heap.size 34 j0 _ 48 Tryz.underlying22 gi GZ.out.1 GZ.out.2 gz2 rfl A' 0 c' r y rfl (hglC.alloc _) wc.heap.size rfl (range_new _ _ _) (by omega) (by decide) (by first | (simp; done) | (simp; omega)) ?_; intro A2 c2 w6 hgl6 ht6 _)
              have hb6 := Below.touch (hbQ.alloc hbz (.cells #[.string y.fKind, .string y.fName, .string y.fText] 34)) ht6 (fun q hq => (hlo q hq).1) (by first | (simp; done) | (simp; omega))
              first | (refine ⟨⟨0 + 1, r ++ [y], A2, c2, by omega, by go_num, rfl, hgl6, hb6, HK⟩, ?_⟩; (first | (simp [intOf]; done) | (simp [intOf]; omega))) | (go_roundw; (case rel => first | exact ⟨0 + 1, r ++ [y], A2, c2, by omega, by go_num, rfl, hgl6, hb6, HK⟩ | ((try refine ⟨trivial, ?_⟩); (repeat apply Exists.intro); exact ⟨⟨0 + 1, r ++ [y], A2, c2, by omega, by go_num, rfl, hgl6, hb6, HK⟩, rfl⟩)); (case measure => (first | (simp [intOf]; done) | (simp [intOf]; omega))))
            · obtain ⟨j, rfl⟩ : ∃ j, k = j + 1 := ⟨k - 1, by omega⟩
              have hjI : (0 : Int) < ((j + 1 : Nat) : Int) := by omega
              go_wp2_with fail
              refine hpx.mono ?_
              rintro e w5 ⟨y, Hy, rfl, hb5⟩
              clear hpx
              have hgl5 := hgl.below hb5
              have hbN := hb.trans (hb5.mono hb.size)
              have hx5R := range_new w5 #[.string y.fKind, .string y.fName, .string y.fText] 34
              have hbw : Below w5.heap.size w5 (w5.alloc (.cells #[.string y.fKind, .string y.fName, .string y.fText] 34)) := (Below.refl _ _).alloc (Nat.le_refl _) _
              obtain ⟨b5, hb5e⟩ : ∃ q, w5.heap.size = q := ⟨_, rfl⟩
              obtain ⟨w, hW5⟩ : ∃ w : World, w5.alloc (.cells #[.string y.fKind, .string y.fName, .string y.fText] 34) = w := ⟨_, rfl⟩
              rw [hW5] at hx5R hbw
              have hglW := hgl5.below hbw
              have hbW := hbN.trans (hbw.mono hbN.size)
              rw [hb5e] at hx5R
              have hy0 := hx5R 0 _ rfl
              have hy1 := hx5R 1 _ rfl
              have hy2 := hx5R 2 _ rfl
              simp only [Nat.zero_add] at hy0 hy1 hy2
              clear hbw hb5 hgl hgl5 hbN
              obtain ⟨b8, o8, p8, hA8, hp8, hc8⟩ := hglW.rd.get (k := j) (by omega)
              subst hA8
              have hoa := okAfter_last (b := y) hrl hp8
              have hp0 := hc8 0 (.string p8.fKind) rfl
              have hp1 := hc8 1 (.string p8.fName) rfl
              have hp2 := hc8 2 (.string p8.fText) rfl
              simp only [blockE, Nat.add_zero] at hp0 hp1 hp2
              have HM : Hid (∀ W, Calls Tryz.prog 17 #[.agg #[.string p8.fKind, .string p8.fName, .string p8.fText], .agg #[.string y.fKind, .string y.fName, .string y.fText]] W fun e w' => e = .returned (.int .i64 (cmpBl p8 y)) ∧ Below W.heap.size W w') := Lib.hid (fun W => i_Block_compare p8 y W)
              by_cases hcm : cmpBl p8 y < 0
              · have HK : Hid (loadT (cutsB 10 s) (j + 1 + 1) = .inr (r ++ [y])) := Lib.hid (by
                  rw [Hy.out]
                  exact load_step HX.out HR.out HCD.out (by rw [← Hy.out, hoa]; exact decide_eq_true hcm))
                have hcg : ¬ (0 : Int) ≤ cmpBl p8 y := by omega
                clear hoa hcm hx5R hrl hc8 hp8 hk0
                go_wp2_with fail
                try rw [hb5e]
                try rw [hW5]
                clear hW5 hb5e
                let S : World → Prop := fun w' => w'.cell? ⟨b5, 0, none⟩ = some (.string y.fKind) ∧ w'.cell? ⟨b5, 1, none⟩ = some (.string y.fName) ∧ w'.cell? ⟨b5, 2, none⟩ = some (.string y.fText) ∧ w'.cell? ⟨b8, o8 + j * 3, none⟩ = some (.string p8.fKind) ∧ w'.cell? ⟨b8, o8 + j * 3 + 1, none⟩ = some (.string p8.fName) ∧ w'.cell? ⟨b8, o8 + j * 3 + 2, none⟩ = some (.string p8.fText) ∧ Below w.heap.size w w'
                have hS : S (World.drew w) := ⟨hy0, hy1, hy2, hp0, hp1, hp2, (Below.refl _ _).drew⟩
                have hne : Nonempty (Wd S) := ⟨⟨_, hS⟩⟩
                have qc0 : ∀ t : Wd S, t.w.cell? ⟨b5, 0, none⟩ = some (.string y.fKind) := fun t => t.h.1
                have qc1 : ∀ t : Wd S, t.w.cell? ⟨b5, 1, none⟩ = some (.string y.fName) := fun t => t.h.2.1
                have qc2 : ∀ t : Wd S, t.w.cell? ⟨b5, 2, none⟩ = some (.string y.fText) := fun t => t.h.2.2.1
                have qc3 : ∀ t : Wd S, t.w.cell? ⟨b8, o8 + j * 3, none⟩ = some (.string p8.fKind) := fun t => t.h.2.2.2.1
                have qc4 : ∀ t : Wd S, t.w.cell? ⟨b8, o8 + j * 3 + 1, none⟩ = some (.string p8.fName) := fun t => t.h.2.2.2.2.1
                have qc5 : ∀ t : Wd S, t.w.cell? ⟨b8, o8 + j * 3 + 2, none⟩ = some (.string p8.fText) := fun t => t.h.2.2.2.2.2.1
                have Q9 : Hid (∀ (t : Wd S) (w' : World), Below t.w.heap.size t.w w' → S w') := Lib.hid (fun t w' h => ⟨cell_later h t.h.1, cell_later h t.h.2.1, cell_later h t.h.2.2.1, cell_later h t.h.2.2.2.1, cell_later h t.h.2.2.2.2.1, cell_later h t.h.2.2.2.2.2.1, t.h.2.2.2.2.2.2.trans (h.mono t.h.2.2.2.2.2.2.size)⟩)
                have QE : Hid (∀ w', S w' → w'.cell? ⟨b5, 0, none⟩ = some (.string y.fKind) ∧ w'.cell? ⟨b5, 1, none⟩ = some (.string y.fName) ∧ w'.cell? ⟨b5, 2, none⟩ = some (.string y.fText) ∧ w'.cell? ⟨b8, o8 + j * 3, none⟩ = some (.string p8.fKind) ∧ w'.cell? ⟨b8, o8 + j * 3 + 1, none⟩ = some (.string p8.fName) ∧ w'.cell? ⟨b8, o8 + j * 3 + 2, none⟩ = some (.string p8.fText) ∧ Below w.heap.size w w') := Lib.hid (fun w' h => h)
                refine wp_region_class S (by kernel_rfl) (by kernel_rfl) hS ?_
                clear_value S
                repeat (go_big_quiet_step ((first | (go_at_call 17; exact class_call _ (HM.out _) (fun e w' h => ⟨h.1, Q9.out _ _ h.2⟩)))))
                refine wpQuiet_nil ?_
                rintro _ ⟨⟨w1, hw1⟩, rfl⟩
                obtain ⟨hy0, hy1, hy2, hp0, hp1, hp2, hbC⟩ := QE.out _ hw1
                try dsimp only
                clear hw1 hS hne Q9 QE qc0 qc1 qc2 qc3 qc4 qc5
                obtain ⟨wc, rfl, hbC'⟩ := nameW hbC
                clear hbC
                have hbC := hbC'
                clear hbC'
                have hglC := hglW.below hbC
                have hbQ := hbW.trans (hbC.mono hbW.size)
                have hlo := hglC.lt
                have hbz := hbQ.size
                clear hglW hbW hbC
                go_wp2_with (at_builtin; refine wpList_pushO blockE rfl _ _ 22 rfl w3.heap.size 34 j0 _ 48 Tryz.underlying22 gi GZ.out.1 GZ.out.2 gz2 rfl (some ⟨b8, o8, none⟩) (j + 1) c' r y rfl (hglC.alloc _) wc.heap.size rfl (range_new _ _ _) (by omega) (by decide) (by first | (simp; done) | (simp; omega)) ?_; intro A2 c2 w6 hgl6 ht6 _)
                have hb6 := Below.touch (hbQ.alloc hbz (.cells #[.string y.fKind, .string y.fName, .string y.fText] 34)) ht6 (fun q hq => (hlo q hq).1) (by first | (simp; done) | (simp; omega))
                first | (refine ⟨⟨j + 1 + 1, r ++ [y], A2, c2, by omega, by go_num, rfl, hgl6, hb6, HK⟩, ?_⟩; (first | (simp [intOf]; done) | (simp [intOf]; omega))) | (go_roundw; (case rel => first | exact ⟨j + 1 + 1, r ++ [y], A2, c2, by omega, by go_num, rfl, hgl6, hb6, HK⟩ | ((try refine ⟨trivial, ?_⟩); (repeat apply Exists.intro); exact ⟨⟨j + 1 + 1, r ++ [y], A2, c2, by omega, by go_num, rfl, hgl6, hb6, HK⟩, rfl⟩)); (case measure => (first | (simp [intOf]; done) | (simp [intOf]; omega))))
              · have E := Lib.hid (loadW_err hm0 HX0.out HH.out (load_at (load_order HX.out HR.out HCD.out (by rw [← Hy.out, hoa]; exact decide_eq_false hcm)) (by omega : j + 1 + 1 ≤ m - 1)))
                have hcg : (0 : Int) ≤ cmpBl p8 y := by omega
                clear hoa hcm hx5R hrl hc8 hp8 hk0
                go_wp2_with fail
                try rw [hb5e]
                try rw [hW5]
                clear hW5 hb5e
                let S : World → Prop := fun w' => w'.cell? ⟨b5, 0, none⟩ = some (.string y.fKind) ∧ w'.cell? ⟨b5, 1, none⟩ = some (.string y.fName) ∧ w'.cell? ⟨b5, 2, none⟩ = some (.string y.fText) ∧ w'.cell? ⟨b8, o8 + j * 3, none⟩ = some (.string p8.fKind) ∧ w'.cell? ⟨b8, o8 + j * 3 + 1, none⟩ = some (.string p8.fName) ∧ w'.cell? ⟨b8, o8 + j * 3 + 2, none⟩ = some (.string p8.fText) ∧ Below w.heap.size w w'
                have hS : S (World.drew w) := ⟨hy0, hy1, hy2, hp0, hp1, hp2, (Below.refl _ _).drew⟩
                have hne : Nonempty (Wd S) := ⟨⟨_, hS⟩⟩
                have qc0 : ∀ t : Wd S, t.w.cell? ⟨b5, 0, none⟩ = some (.string y.fKind) := fun t => t.h.1
                have qc1 : ∀ t : Wd S, t.w.cell? ⟨b5, 1, none⟩ = some (.string y.fName) := fun t => t.h.2.1
                have qc2 : ∀ t : Wd S, t.w.cell? ⟨b5, 2, none⟩ = some (.string y.fText) := fun t => t.h.2.2.1
                have qc3 : ∀ t : Wd S, t.w.cell? ⟨b8, o8 + j * 3, none⟩ = some (.string p8.fKind) := fun t => t.h.2.2.2.1
                have qc4 : ∀ t : Wd S, t.w.cell? ⟨b8, o8 + j * 3 + 1, none⟩ = some (.string p8.fName) := fun t => t.h.2.2.2.2.1
                have qc5 : ∀ t : Wd S, t.w.cell? ⟨b8, o8 + j * 3 + 2, none⟩ = some (.string p8.fText) := fun t => t.h.2.2.2.2.2.1
                have Q9 : Hid (∀ (t : Wd S) (w' : World), Below t.w.heap.size t.w w' → S w') := Lib.hid (fun t w' h => ⟨cell_later h t.h.1, cell_later h t.h.2.1, cell_later h t.h.2.2.1, cell_later h t.h.2.2.2.1, cell_later h t.h.2.2.2.2.1, cell_later h t.h.2.2.2.2.2.1, t.h.2.2.2.2.2.2.trans (h.mono t.h.2.2.2.2.2.2.size)⟩)
                have QE : Hid (∀ w', S w' → w'.cell? ⟨b5, 0, none⟩ = some (.string y.fKind) ∧ w'.cell? ⟨b5, 1, none⟩ = some (.string y.fName) ∧ w'.cell? ⟨b5, 2, none⟩ = some (.string y.fText) ∧ w'.cell? ⟨b8, o8 + j * 3, none⟩ = some (.string p8.fKind) ∧ w'.cell? ⟨b8, o8 + j * 3 + 1, none⟩ = some (.string p8.fName) ∧ w'.cell? ⟨b8, o8 + j * 3 + 2, none⟩ = some (.string p8.fText) ∧ Below w.heap.size w w') := Lib.hid (fun w' h => h)
                refine wp_region_class S (by kernel_rfl) (by kernel_rfl) hS ?_
                clear_value S
                repeat (go_big_quiet_step ((first | (go_at_call 17; exact class_call _ (HM.out _) (fun e w' h => ⟨h.1, Q9.out _ _ h.2⟩)))))
                refine wpQuiet_nil ?_
                rintro _ ⟨⟨w1, hw1⟩, rfl⟩
                obtain ⟨hy0, hy1, hy2, hp0, hp1, hp2, hbC⟩ := QE.out _ hw1
                try dsimp only
                clear hw1 hS hne Q9 QE qc0 qc1 qc2 qc3 qc4 qc5
                have hbQ := hbF.trans ((hbW.trans (hbC.mono hbW.size)).mono hbF.size)
                go_wp2
                go_ret3
                exact RetLCC.nil (by rw [E.out]) (by rw [E.out]; show ((j + 1 : Nat) : Int) + 2 = _; omega) (by rw [E.out]) hbQ
          · have E := Lib.hid (loadW_err hm0 HX0.out HH.out (load_at (load_code HX.out HR.out (by rw [hcd]; decide)) (by omega : k + 1 ≤ m - 1)))
            rw [hcd] at hpx E
            clear hcd
            go_wp2_with fail
            refine hpx.mono ?_
            rintro e w5 ⟨y, Hy, rfl, hb5⟩
            clear hpx
            have hgl5 := hgl.below hb5
            have hbN := hb.trans (hb5.mono hb.size)
            have hx5R := range_new w5 #[.string y.fKind, .string y.fName, .string y.fText] 34
            have hbw : Below w5.heap.size w5 (w5.alloc (.cells #[.string y.fKind, .string y.fName, .string y.fText] 34)) := (Below.refl _ _).alloc (Nat.le_refl _) _
            obtain ⟨b5, hb5e⟩ : ∃ q, w5.heap.size = q := ⟨_, rfl⟩
            obtain ⟨w, hW5⟩ : ∃ w : World, w5.alloc (.cells #[.string y.fKind, .string y.fName, .string y.fText] 34) = w := ⟨_, rfl⟩
            rw [hW5] at hx5R hbw
            have hglW := hgl5.below hbw
            have hbW := hbN.trans (hbw.mono hbN.size)
            rw [hb5e] at hx5R
            have hy0 := hx5R 0 _ rfl
            have hy1 := hx5R 1 _ rfl
            have hy2 := hx5R 2 _ rfl
            simp only [Nat.zero_add] at hy0 hy1 hy2
            clear hbw hb5 hgl hgl5 hbN
            go_wp2_with fail
            try rw [hb5e]
            try rw [hW5]
            clear hW5 hb5e
            let S : World → Prop := fun w' => w'.cell? ⟨b5, 0, none⟩ = some (.string y.fKind) ∧ w'.cell? ⟨b5, 1, none⟩ = some (.string y.fName) ∧ w'.cell? ⟨b5, 2, none⟩ = some (.string y.fText) ∧ Below w.heap.size w w'
            have hS : S (World.drew w) := ⟨hy0, hy1, hy2, (Below.refl _ _).drew⟩
            have hne : Nonempty (Wd S) := ⟨⟨_, hS⟩⟩
            have qc0 : ∀ t : Wd S, t.w.cell? ⟨b5, 0, none⟩ = some (.string y.fKind) := fun t => t.h.1
            have qc1 : ∀ t : Wd S, t.w.cell? ⟨b5, 1, none⟩ = some (.string y.fName) := fun t => t.h.2.1
            have qc2 : ∀ t : Wd S, t.w.cell? ⟨b5, 2, none⟩ = some (.string y.fText) := fun t => t.h.2.2.1
            have Q9 : Hid (∀ (t : Wd S) (w' : World), Below t.w.heap.size t.w w' → S w') := Lib.hid (fun t w' h => ⟨cell_later h t.h.1, cell_later h t.h.2.1, cell_later h t.h.2.2.1, t.h.2.2.2.trans (h.mono t.h.2.2.2.size)⟩)
            have QE : Hid (∀ w', S w' → w'.cell? ⟨b5, 0, none⟩ = some (.string y.fKind) ∧ w'.cell? ⟨b5, 1, none⟩ = some (.string y.fName) ∧ w'.cell? ⟨b5, 2, none⟩ = some (.string y.fText) ∧ Below w.heap.size w w') := Lib.hid (fun w' h => h)
            refine wp_region_class S (by kernel_rfl) (by kernel_rfl) hS ?_
            clear_value S
            repeat (go_big_quiet_step (fail))
            refine wpQuiet_nil ?_
            rintro _ ⟨⟨w1, hw1⟩, rfl⟩
            obtain ⟨hy0, hy1, hy2, hbC⟩ := QE.out _ hw1
            try dsimp only
            clear hw1 hS hne Q9 QE qc0 qc1 qc2
            have hbQ := hbF.trans ((hbW.trans (hbC.mono hbW.size)).mono hbF.size)
            go_wp2
            go_ret3
            exact RetLCC.nil (by rw [E.out]) (by rw [E.out]) (by rw [E.out]) hbQ
          · have E := Lib.hid (loadW_err hm0 HX0.out HH.out (load_at (load_code HX.out HR.out (by rw [hcd]; decide)) (by omega : k + 1 ≤ m - 1)))
            rw [hcd] at hpx E
            clear hcd
            go_wp2_with fail
            refine hpx.mono ?_
            rintro e w5 ⟨y, Hy, rfl, hb5⟩
            clear hpx
            have hgl5 := hgl.below hb5
            have hbN := hb.trans (hb5.mono hb.size)
            have hx5R := range_new w5 #[.string y.fKind, .string y.fName, .string y.fText] 34
            have hbw : Below w5.heap.size w5 (w5.alloc (.cells #[.string y.fKind, .string y.fName, .string y.fText] 34)) := (Below.refl _ _).alloc (Nat.le_refl _) _
            obtain ⟨b5, hb5e⟩ : ∃ q, w5.heap.size = q := ⟨_, rfl⟩
            obtain ⟨w, hW5⟩ : ∃ w : World, w5.alloc (.cells #[.string y.fKind, .string y.fName, .string y.fText] 34) = w := ⟨_, rfl⟩
            rw [hW5] at hx5R hbw
            have hglW := hgl5.below hbw
            have hbW := hbN.trans (hbw.mono hbN.size)
            rw [hb5e] at hx5R
            have hy0 := hx5R 0 _ rfl
            have hy1 := hx5R 1 _ rfl
            have hy2 := hx5R 2 _ rfl
            simp only [Nat.zero_add] at hy0 hy1 hy2
            clear hbw hb5 hgl hgl5 hbN
            go_wp2_with fail
            try rw [hb5e]
            try rw [hW5]
            clear hW5 hb5e
            let S : World → Prop := fun w' => w'.cell? ⟨b5, 0, none⟩ = some (.string y.fKind) ∧ w'.cell? ⟨b5, 1, none⟩ = some (.string y.fName) ∧ w'.cell? ⟨b5, 2, none⟩ = some (.string y.fText) ∧ Below w.heap.size w w'
            have hS : S (World.drew w) := ⟨hy0, hy1, hy2, (Below.refl _ _).drew⟩
            have hne : Nonempty (Wd S) := ⟨⟨_, hS⟩⟩
            have qc0 : ∀ t : Wd S, t.w.cell? ⟨b5, 0, none⟩ = some (.string y.fKind) := fun t => t.h.1
            have qc1 : ∀ t : Wd S, t.w.cell? ⟨b5, 1, none⟩ = some (.string y.fName) := fun t => t.h.2.1
            have qc2 : ∀ t : Wd S, t.w.cell? ⟨b5, 2, none⟩ = some (.string y.fText) := fun t => t.h.2.2.1
            have Q9 : Hid (∀ (t : Wd S) (w' : World), Below t.w.heap.size t.w w' → S w') := Lib.hid (fun t w' h => ⟨cell_later h t.h.1, cell_later h t.h.2.1, cell_later h t.h.2.2.1, t.h.2.2.2.trans (h.mono t.h.2.2.2.size)⟩)
            have QE : Hid (∀ w', S w' → w'.cell? ⟨b5, 0, none⟩ = some (.string y.fKind) ∧ w'.cell? ⟨b5, 1, none⟩ = some (.string y.fName) ∧ w'.cell? ⟨b5, 2, none⟩ = some (.string y.fText) ∧ Below w.heap.size w w') := Lib.hid (fun w' h => h)
            refine wp_region_class S (by kernel_rfl) (by kernel_rfl) hS ?_
            clear_value S
            repeat (go_big_quiet_step (fail))
            refine wpQuiet_nil ?_
            rintro _ ⟨⟨w1, hw1⟩, rfl⟩
            obtain ⟨hy0, hy1, hy2, hbC⟩ := QE.out _ hw1
            try dsimp only
            clear hw1 hS hne Q9 QE qc0 qc1 qc2
            have hbQ := hbF.trans ((hbW.trans (hbC.mono hbW.size)).mono hbF.size)
            go_wp2
            go_ret3
            exact RetLCC.nil (by rw [E.out]) (by rw [E.out]) (by rw [E.out]) hbQ
        · have hkm : k = m - 1 := by omega
          have hrl := load_len HR.out
          by_cases hn : (k : Int) = n0
          · have E := Lib.hid (loadW_ok hm0 HX0.out HH.out (by rw [← hkm]; exact HR.out) (by rw [hrl]; exact hn))
            have hnb : ((k : Int) != n0) = false := by rw [hn]; simp
            clear hkm hn
            go_wp2
            go_ret3
            exact RetLCC.mk (hgl.mono hz2) (by omega) (by rw [E.out]) (by rw [E.out]) (by rw [E.out]) hbr
          · have E := Lib.hid (loadW_count hm0 HX0.out HH.out (by rw [← hkm]; exact HR.out) (by rw [hrl]; exact hn))
            have hnb : ((k : Int) != n0) = true := by rw [bne_iff_ne]; exact hn
            clear hkm hn
            go_wp2
            go_ret3
            exact RetLCC.nil (by rw [E.out]) (by rw [E.out]) (by rw [E.out]) hbr

end Go.Proofs.YtnbeomceiealdaaGreatDoor
