/- The merge of the program. Printed by a program of mine. -/
import Derived.Test.YtfabijhilfjkcaaRows
import Derived.Test.YtfabijhilfjkcaaMergeJ
import Derived.Test.YtfabijhilfjkcaaVerLaw
namespace Go.Proofs.Ytfabijhilfjkcaa
set_option linter.unusedVariables false
set_option linter.unusedSimpArgs false
set_option linter.unusedSectionVars false
open Go.RowKit
set_option maxRecDepth 100000

theorem keep_yes {base a b : List DSetting} {ns : List ByteArray} {k : Nat} {s : ByteArray} {v : Int} (hs : ns[k]? = some s) (hv : pickV base a b s = v) (h : 0 ≤ v) : merged base a b (ns.take (k + 1)) = merged base a b (ns.take k) ++ [⟨s, v⟩] := by
  rw [merged_take hs]
  unfold keepV
  rw [hv, if_pos h]
theorem keep_no {base a b : List DSetting} {ns : List ByteArray} {k : Nat} {s : ByteArray} {v : Int} (hs : ns[k]? = some s) (hv : pickV base a b s = v) (h : ¬ 0 ≤ v) : merged base a b (ns.take (k + 1)) = merged base a b (ns.take k) := by
  rw [merged_take hs]
  unfold keepV
  rw [hv, if_neg h, List.append_nil]
theorem i_valueB (x : St3) (nm : ByteArray) (w : World) (hr : Rd settingE w x.A x.n x.l) (hn : x.n ≤ 24) (ha : AscS (nmS x.l)) :
    Calls Try.prog 47 #[.slice x.A x.n x.c, .string nm] w fun e w' => e = .returned (.int .i64 (valS x.l nm)) ∧ Below w.heap.size w w' :=
  (i_value x.A x.n x.c x.l nm w hr (by omega) ha).mono fun e w' h => ⟨h.1, by obtain ⟨m, rfl⟩ := h.2; exact below_drewN (Below.refl _ _) _⟩

set_option maxHeartbeats 4000000 in
theorem i_MergeStates (x0 x1 x2 : St3) (w0 : World) (hr0 : Rd settingE w0 x0.A x0.n x0.l) (hr1 : Rd settingE w0 x1.A x1.n x1.l) (hr2 : Rd settingE w0 x2.A x2.n x2.l) (hok : Ok3 x0.l x1.l x2.l)
    (hv0 : stB x0.l = true) (hv1 : stB x1.l = true) (hv2 : stB x2.l = true) (hg0 : ∀ x ∈ x0.l, x.good) (hg1 : ∀ x ∈ x1.l, x.good) (hg2 : ∀ x ∈ x2.l, x.good) :
    Calls Try.prog 23 #[.slice x0.A x0.n x0.c, .slice x1.A x1.n x1.c, .slice x2.A x2.n x2.c] w0 (RetLC settingE 56 (mergeV x0.l x1.l x2.l).1 (mergeV x0.l x1.l x2.l).2 w0) := by
  obtain ⟨i0, hi, hz0, hz1, hz2⟩ := info_parts Try.inf_Setting
  have HZ := Lib.hid (And.intro hz0 hz1); clear hz0 hz1
  have m0 : x0.n ≤ 24 := by rw [← hr0.1]; exact hok.n0
  have m1 : x1.n ≤ 24 := by rw [← hr1.1]; exact hok.n1
  have m2 : x2.n ≤ 24 := by rw [← hr2.1]; exact hok.n2
  have HK := Lib.hid hok; clear hok
  have HG0 := Lib.hid hg0; have HG1 := Lib.hid hg1; have HG2 := Lib.hid hg2
  clear hg0 hg1 hg2
  have C0 : Hid (∀ W, Below w0.heap.size w0 W → Calls Try.prog 42 #[.slice x0.A x0.n x0.c] W (RetB true W)) := Lib.hid fun W h => hv0 ▸ i_ValidState x0.A x0.n x0.c x0.l W (hr0.below h) (by unfold maxLen; omega) HG0.out
  have C1 : Hid (∀ W, Below w0.heap.size w0 W → Calls Try.prog 42 #[.slice x1.A x1.n x1.c] W (RetB true W)) := Lib.hid fun W h => hv1 ▸ i_ValidState x1.A x1.n x1.c x1.l W (hr1.below h) (by unfold maxLen; omega) HG1.out
  have C2 : Hid (∀ W, Below w0.heap.size w0 W → Calls Try.prog 42 #[.slice x2.A x2.n x2.c] W (RetB true W)) := Lib.hid fun W h => hv2 ▸ i_ValidState x2.A x2.n x2.c x2.l W (hr2.below h) (by unfold maxLen; omega) HG2.out
  have V0 : Hid (∀ W nm, Below w0.heap.size w0 W → Calls Try.prog 47 #[.slice x0.A x0.n x0.c, .string nm] W fun e w' => e = .returned (.int .i64 (valS x0.l nm)) ∧ Below W.heap.size W w') := Lib.hid fun W nm h => i_valueB x0 nm W (hr0.below h) m0 HK.out.h0.asc
  have V1 : Hid (∀ W nm, Below w0.heap.size w0 W → Calls Try.prog 47 #[.slice x1.A x1.n x1.c, .string nm] W fun e w' => e = .returned (.int .i64 (valS x1.l nm)) ∧ Below W.heap.size W w') := Lib.hid fun W nm h => i_valueB x1 nm W (hr1.below h) m1 HK.out.h1.asc
  have V2 : Hid (∀ W nm, Below w0.heap.size w0 W → Calls Try.prog 47 #[.slice x2.A x2.n x2.c, .string nm] W fun e w' => e = .returned (.int .i64 (valS x2.l nm)) ∧ Below W.heap.size W w') := Lib.hid fun W nm h => i_valueB x2 nm W (hr2.below h) m2 HK.out.h2.asc
  clear hv0 hv1 hv2
  go_enter Try.func23, Try.ntmps23
  go_wp2_with fail
  refine (C0.out _ (Below.refl _ _)).mono ?_
  rintro e w1 ⟨rfl, b1⟩
  go_wp2_with fail
  refine (C1.out _ b1).mono ?_
  rintro e w2 ⟨rfl, b2⟩
  have b12 := b1.trans (b2.mono b1.size)
  clear b1 b2
  go_wp2_with fail
  refine (C2.out _ b12).mono ?_
  rintro e w3 ⟨rfl, b3⟩
  have b13 := b12.trans (b3.mono b12.size)
  clear b12 b3
  go_wp2_with fail
  refine (i_conflicts x0 x1 x2 w3 (hr0.below b13) (hr1.below b13) (hr2.below b13) HK.out).mono ?_
  rintro e wc ⟨D0, z0, d0, rfl, hgc, hbc'⟩
  have hbc := b13.trans (hbc'.mono b13.size)
  have hsc := hbc.size
  have hlc := hgc.len
  clear b13 hbc' C0 C1 C2
  rcases z0 with _ | z0
  · have hno : conf3 x0.l x1.l x2.l = [] := List.eq_nil_of_length_eq_zero hlc
    have HNO := Lib.hid hno
    clear hgc hlc hno
    have p0 : GL settingE 56 w0.heap.size (wc.alloc (.cells #[] 56)) (.slice (some ⟨wc.heap.size, 0, none⟩) 0 0) [] := GL.mk0 hsc
    have q0 : Below wc.heap.size wc (wc.alloc (.cells #[] 56)) := (Below.refl _ _).alloc (Nat.le_refl _) _
    obtain ⟨Wp, hWp⟩ : ∃ W, wc.alloc (.cells #[] 56) = W := ⟨_, rfl⟩
    rw [hWp] at p0 q0
    have R9 := range_new Wp #[.slice x1.A x1.n x1.c, .slice x2.A x2.n x2.c] 38
    have b9 : Below Wp.heap.size Wp (Wp.alloc (.cells #[.slice x1.A x1.n x1.c, .slice x2.A x2.n x2.c] 38)) := (Below.refl _ _).alloc (Nat.le_refl _) _
    have hS : Rd stE (Wp.alloc (.cells #[.slice x1.A x1.n x1.c, .slice x2.A x2.n x2.c] 38)) (some ⟨Wp.heap.size, 0, none⟩) 2 [x1, x2] := Rd.lit1 stE rfl rfl rfl
    obtain ⟨Wq, hWq⟩ : ∃ W, Wp.alloc (.cells #[.slice x1.A x1.n x1.c, .slice x2.A x2.n x2.c] 38) = W := ⟨_, rfl⟩
    rw [hWq] at R9 b9 hS
    clear R9
    have hq := q0.trans (b9.mono q0.size)
    have p1 := p0.below b9
    have hbq := hbc.trans (hq.mono hsc)
    obtain ⟨g0, hg0⟩ : ∃ g, wc.heap.size = g := ⟨_, rfl⟩
    rw [hg0] at p1
    clear p0 q0 b9
    go_wp2_with fail
    try rw [hWp]
    try rw [hg0]
    try rw [hWq]
    clear hWp hWq
    refine (i_namesOf _ 2 2 [x1, x2] Wq hS (by omega) (fun x hx => by
      simp only [List.mem_cons, List.not_mem_nil, or_false] at hx
      rcases hx with rfl | rfl
      · exact ⟨hr1.below hbq, m1⟩
      · exact ⟨hr2.below hbq, m2⟩)).mono ?_
    rintro e wn ⟨gn, z, d, rfl, hgn, hbn'⟩
    have HF : Hid (uniqB (sortB (nmS (flatS [x1, x2]))) = (uniqB (sortB (nmS (x1.l ++ x2.l))))) := Lib.hid (by unfold flatS; simp)
    rw [HF.out] at hgn
    have hbn := hbq.trans (hbn'.mono hbq.size)
    have HG3 : Hid (GL settingE 56 w0.heap.size wn (.slice (some ⟨g0, 0, none⟩) 0 0) (merged x0.l x1.l x2.l ((uniqB (sortB (nmS (x1.l ++ x2.l)))).take 0))) := Lib.hid (p1.below hbn')
    have HL := Lib.hid hgn.len
    have hz72 : z ≤ 72 := by
      rw [← hgn.len]
      have h := names3_few (base := []) ⟨OkSt.nil, HK.out.h1, HK.out.h2, Nat.zero_le _, HK.out.n1, HK.out.n2⟩
      unfold names3 at h
      rwa [List.nil_append] at h
    have HAP : Hid (Apart (.slice (some ⟨g0, 0, none⟩) 0 0) (.slice (some ⟨gn, 0, none⟩) z d)) := Lib.hid (Apart.new p1 (fun k hk => by have := (hgn.lt k hk).1; exact this))
    have HRN := Lib.hid hgn
    clear hgn hbn' p1 hS hbq hq
    go_wp2_with fail
    go_loopw [8, 37] (fun t i wr => ∃ (k : Nat) (B : Option Addr) (y q : Nat), k ≤ z ∧ i = .int .i64 k ∧ t = .slice B y q ∧ y ≤ k ∧ Hid (GL settingE 56 w0.heap.size wr (.slice B y q) (merged x0.l x1.l x2.l ((uniqB (sortB (nmS (x1.l ++ x2.l)))).take k))) ∧ Hid (GL strE 9 Wq.heap.size wr (.slice (some ⟨gn, 0, none⟩) z d) (uniqB (sortB (nmS (x1.l ++ x2.l))))) ∧ Hid (Apart (.slice B y q) (.slice (some ⟨gn, 0, none⟩) z d)) ∧ Below w0.heap.size w0 wr) (fun _ i _ => z - (intOf i).toNat)
    case atStart => exact ⟨0, _, 0, 0, Nat.zero_le _, rfl, rfl, Nat.le_refl _, HG3, HRN, HAP, hbn⟩
    case round =>
      clear HG3 HRN HAP hbn
      obtain ⟨k, B, y, q, hk, rfl, rfl, hyk, HGL, HRN, HAP, hb⟩ := hrel
      have hbs := hb.size
      by_cases hlt : k < z
      · obtain ⟨s, hs⟩ : ∃ s, (uniqB (sortB (nmS (x1.l ++ x2.l))))[k]? = some s := ⟨_, List.getElem?_eq_getElem (by rw [HL.out]; exact hlt)⟩
        have hc0 := HRN.out.cellS hs
        have HX := Lib.hid hs
        obtain ⟨v0, hv0⟩ : ∃ v, valS x0.l s = v := ⟨_, rfl⟩
        obtain ⟨v1, hv1⟩ : ∃ v, valS x1.l s = v := ⟨_, rfl⟩
        obtain ⟨v2, hv2⟩ : ∃ v, valS x2.l s = v := ⟨_, rfl⟩
        have HPV : Hid (pickV x0.l x1.l x2.l s = if v1 = v0 then v2 else v1) := Lib.hid (by unfold pickV; rw [hv0, hv1, hv2])
        have W0 := V0.out
        have G0 : Hid (∀ W, Below w0.heap.size w0 W → Calls Try.prog 47 #[.slice x0.A x0.n x0.c, .string s] W fun e w' => e = .returned (.int .i64 v0) ∧ Below W.heap.size W w') := Lib.hid fun W h => hv0 ▸ V0.out W s h
        have G1 : Hid (∀ W, Below w0.heap.size w0 W → Calls Try.prog 47 #[.slice x1.A x1.n x1.c, .string s] W fun e w' => e = .returned (.int .i64 v1) ∧ Below W.heap.size W w') := Lib.hid fun W h => hv1 ▸ V1.out W s h
        have G2 : Hid (∀ W, Below w0.heap.size w0 W → Calls Try.prog 47 #[.slice x2.A x2.n x2.c, .string s] W fun e w' => e = .returned (.int .i64 v2) ∧ Below W.heap.size W w') := Lib.hid fun W h => hv2 ▸ V2.out W s h
        clear hs hv0 hv1 hv2 W0
        go_wp2_with fail
        refine (G1.out wr hb).mono ?_
        rintro e w4 ⟨rfl, c4⟩
        have hb4 := hb.trans (c4.mono hbs)
        go_wp2_with fail
        refine (G0.out w4 hb4).mono ?_
        rintro e w5 ⟨rfl, c5⟩
        have c45 := c4.trans (c5.mono c4.size)
        have hb5 := hb.trans (c45.mono hbs)
        have hs5 := hb5.size
        clear hc0 c4 c5 hb4
        by_cases hq : v1 = v0
        · have HP : Hid (pickV x0.l x1.l x2.l s = v2) := Lib.hid (by rw [HPV.out, if_pos hq])
          have h1 : (v1 == v0) = true := by rw [beq_iff_eq]; exact hq
          have HQ := Lib.hid hq
          clear hq
          go_wp2_with fail
          refine (G2.out w5 hb5).mono ?_
          rintro e w6 ⟨rfl, c6⟩
          have c46 := c45.trans (c6.mono c45.size)
          have hb6 := hb.trans (c46.mono hbs)
          have hs6 := hb6.size
          clear c45 c6 hb5 hs5 h1
          have hglE := HGL.out.below c46
          have hrnE := HRN.out.below c46
          by_cases hge : 0 ≤ v2
          · have HT := Lib.hid (keep_yes HX.out HP.out hge)
            clear c46 HGL HRN
            go_wp2_with (at_builtin; refine wpList_pushO settingE rfl _ _ 38 rfl w0.heap.size 56 i0 _ 24 Try.underlying38 hi HZ.out.1 HZ.out.2 hz2 rfl B y q (merged x0.l x1.l x2.l ((uniqB (sortB (nmS (x1.l ++ x2.l)))).take k)) ⟨s, v2⟩ rfl (hglE.alloc _) w6.heap.size rfl (range_new _ _ _) (by omega) (by decide) (Nat.le_trans hs6 (by simp)) ?_; intro BB7 cc7 w7 hgl7 ht7 hn7; have hb7 := Below.touch (hb6.alloc hs6 (.cells #[.string s, .int .i64 v2] 56)) ht7 (fun k hk => (hglE.lt k hk).1) (Nat.le_trans hs6 (by simp)); have hbs7 := hb7.size; have hrn7 := (hrnE.alloc (.cells #[.string s, .int .i64 v2] 56)).touchO ht7 HAP.out.symm; have hap7 := (Apart.grow (hrnE.alloc (.cells #[.string s, .int .i64 v2] 56)) HAP.out.symm hn7).symm; clear ht7 hn7)
            have HG3 : Hid (GL settingE 56 w0.heap.size w7 (.slice BB7 (y + 1) cc7) (merged x0.l x1.l x2.l ((uniqB (sortB (nmS (x1.l ++ x2.l)))).take (k + 1)))) := Lib.hid (by rw [HT.out]; exact hgl7)
            have HR3 := Lib.hid hrn7
            have HA3 := Lib.hid hap7
            clear hgl7 hrn7 hap7 hglE hrnE
            go_wp2
            first | (refine ⟨⟨k + 1, BB7, y + 1, cc7, by omega, by go_num, rfl, by omega, HG3, HR3, HA3, hb7⟩, ?_⟩; (simp [intOf]; omega)) | (go_roundw; (case rel => first | exact ⟨k + 1, BB7, y + 1, cc7, by omega, by go_num, rfl, by omega, HG3, HR3, HA3, hb7⟩ | ((try refine ⟨trivial, ?_⟩); (repeat apply Exists.intro); exact ⟨⟨k + 1, BB7, y + 1, cc7, by omega, by go_num, rfl, by omega, HG3, HR3, HA3, hb7⟩, rfl⟩)); (case measure => (simp [intOf]; omega)))
          · have HG3 : Hid (GL settingE 56 w0.heap.size w6 (.slice B y q) (merged x0.l x1.l x2.l ((uniqB (sortB (nmS (x1.l ++ x2.l)))).take (k + 1)))) := Lib.hid (by rw [keep_no HX.out HP.out hge]; exact hglE)
            have HR3 := Lib.hid hrnE
            clear c46 HGL HRN hglE hrnE
            go_wp2
            first | (refine ⟨⟨k + 1, B, y, q, by omega, by go_num, rfl, by omega, HG3, HR3, HAP, hb6⟩, ?_⟩; (simp [intOf]; omega)) | (go_roundw; (case rel => first | exact ⟨k + 1, B, y, q, by omega, by go_num, rfl, by omega, HG3, HR3, HAP, hb6⟩ | ((try refine ⟨trivial, ?_⟩); (repeat apply Exists.intro); exact ⟨⟨k + 1, B, y, q, by omega, by go_num, rfl, by omega, HG3, HR3, HAP, hb6⟩, rfl⟩)); (case measure => (simp [intOf]; omega)))
        · have HP : Hid (pickV x0.l x1.l x2.l s = v1) := Lib.hid (by rw [HPV.out, if_neg hq])
          have h1 : (v1 == v0) = false := by rw [beq_eq_false_iff_ne]; exact hq
          have HQ := Lib.hid hq
          clear hq
          have hglE := HGL.out.below c45
          have hrnE := HRN.out.below c45
          by_cases hge : 0 ≤ v1
          · have HT := Lib.hid (keep_yes HX.out HP.out hge)
            clear c45 HGL HRN
            go_wp2_with (at_builtin; refine wpList_pushO settingE rfl _ _ 38 rfl w0.heap.size 56 i0 _ 24 Try.underlying38 hi HZ.out.1 HZ.out.2 hz2 rfl B y q (merged x0.l x1.l x2.l ((uniqB (sortB (nmS (x1.l ++ x2.l)))).take k)) ⟨s, v1⟩ rfl (hglE.alloc _) w5.heap.size rfl (range_new _ _ _) (by omega) (by decide) (Nat.le_trans hs5 (by simp)) ?_; intro BB7 cc7 w7 hgl7 ht7 hn7; have hb7 := Below.touch (hb5.alloc hs5 (.cells #[.string s, .int .i64 v1] 56)) ht7 (fun k hk => (hglE.lt k hk).1) (Nat.le_trans hs5 (by simp)); have hbs7 := hb7.size; have hrn7 := (hrnE.alloc (.cells #[.string s, .int .i64 v1] 56)).touchO ht7 HAP.out.symm; have hap7 := (Apart.grow (hrnE.alloc (.cells #[.string s, .int .i64 v1] 56)) HAP.out.symm hn7).symm; clear ht7 hn7)
            have HG3 : Hid (GL settingE 56 w0.heap.size w7 (.slice BB7 (y + 1) cc7) (merged x0.l x1.l x2.l ((uniqB (sortB (nmS (x1.l ++ x2.l)))).take (k + 1)))) := Lib.hid (by rw [HT.out]; exact hgl7)
            have HR3 := Lib.hid hrn7
            have HA3 := Lib.hid hap7
            clear hgl7 hrn7 hap7 hglE hrnE
            go_wp2
            first | (refine ⟨⟨k + 1, BB7, y + 1, cc7, by omega, by go_num, rfl, by omega, HG3, HR3, HA3, hb7⟩, ?_⟩; (simp [intOf]; omega)) | (go_roundw; (case rel => first | exact ⟨k + 1, BB7, y + 1, cc7, by omega, by go_num, rfl, by omega, HG3, HR3, HA3, hb7⟩ | ((try refine ⟨trivial, ?_⟩); (repeat apply Exists.intro); exact ⟨⟨k + 1, BB7, y + 1, cc7, by omega, by go_num, rfl, by omega, HG3, HR3, HA3, hb7⟩, rfl⟩)); (case measure => (simp [intOf]; omega)))
          · have HG3 : Hid (GL settingE 56 w0.heap.size w5 (.slice B y q) (merged x0.l x1.l x2.l ((uniqB (sortB (nmS (x1.l ++ x2.l)))).take (k + 1)))) := Lib.hid (by rw [keep_no HX.out HP.out hge]; exact hglE)
            have HR3 := Lib.hid hrnE
            clear c45 HGL HRN hglE hrnE
            go_wp2
            first | (refine ⟨⟨k + 1, B, y, q, by omega, by go_num, rfl, by omega, HG3, HR3, HAP, hb5⟩, ?_⟩; (simp [intOf]; omega)) | (go_roundw; (case rel => first | exact ⟨k + 1, B, y, q, by omega, by go_num, rfl, by omega, HG3, HR3, HAP, hb5⟩ | ((try refine ⟨trivial, ?_⟩); (repeat apply Exists.intro); exact ⟨⟨k + 1, B, y, q, by omega, by go_num, rfl, by omega, HG3, HR3, HAP, hb5⟩, rfl⟩)); (case measure => (simp [intOf]; omega)))
      · obtain rfl : k = z := by omega
        have E1 : Hid (merged x0.l x1.l x2.l ((uniqB (sortB (nmS (x1.l ++ x2.l)))).take k) = merged x0.l x1.l x2.l (names3 x0.l x1.l x2.l)) := Lib.hid (by rw [List.take_of_length_le (Nat.le_of_eq HL.out), merged_two])
        have HGF : Hid (GL settingE 56 w0.heap.size wr (.slice B y q) (merged x0.l x1.l x2.l (names3 x0.l x1.l x2.l))) := Lib.hid (by rw [← E1.out]; exact HGL.out)
        have HLY := Lib.hid HGF.out.len
        clear HGL HRN HAP
        go_wp2_with fail
        refine (i_few _ _ _ (by omega) (by omega)).mono ?_
        rintro e w' ⟨rfl, rfl⟩
        by_cases h24 : 24 < y
        · have EM := Lib.hid (mergeV_full HNO.out (by rw [HLY.out]; exact h24))
          have hd : decide ((y : Int) ≤ 24) = false := decide_eq_false (by omega)
          rw [hd]
          go_wp2
          go_ret2
          exact RetLC.nil (by rw [EM.out]) (by rw [EM.out]) hb
        · have EM := Lib.hid (mergeV_ok HNO.out (by rw [HLY.out]; omega))
          have hd : decide ((y : Int) ≤ 24) = true := decide_eq_true (by omega)
          rw [hd]
          go_wp2
          go_ret2
          exact RetLC.mk HGF.out (by omega) (by rw [EM.out]) (by rw [EM.out]) hb
  · have EM := Lib.hid (mergeV_conf (base := x0.l) (a := x1.l) (b := x2.l) (fun e => by rw [e] at hlc; cases hlc))
    clear hgc hlc
    go_wp2
    go_ret2
    exact RetLC.nil (by rw [EM.out]) (by rw [EM.out]) hbc
end Go.Proofs.Ytfabijhilfjkcaa
