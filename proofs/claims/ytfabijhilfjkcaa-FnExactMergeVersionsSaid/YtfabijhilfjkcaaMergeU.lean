/- The merge of the reference. Printed by a program of mine. -/
import Derived.Test.YtfabijhilfjkcaaRows
import Derived.Test.YtfabijhilfjkcaaMergeT
import Derived.Test.YtfabijhilfjkcaaVerLaw
import Derived.Deep.Cut
namespace Go.Proofs.Ytfabijhilfjkcaa
set_option linter.unusedVariables false
set_option linter.unusedSimpArgs false
set_option linter.unusedSectionVars false
open Go.RowKit
set_option maxRecDepth 100000

theorem nameWM {B : Nat} {w0 w : World} (h : Below B w0 w) : ∃ W, W = w ∧ Below B w0 W := ⟨w, rfl, h⟩
set_option maxHeartbeats 4000000 in
theorem s_l27Merge (A0 A1 A2 : Option Addr) (n0 c0 n1 c1 n2 c2 : Nat) (l0 l1 l2 : List DSetting) (w0 : World) (hr0 : Rd settingE w0 A0 n0 l0) (hr1 : Rd settingE w0 A1 n1 l1) (hr2 : Rd settingE w0 A2 n2 l2) (hok : Ok3 l0 l1 l2) :
    Calls Try.prog 15 #[.slice A0 n0 c0, .slice A1 n1 c1, .slice A2 n2 c2] w0 (RetLC settingE 56 (mergeV l0 l1 l2).1 (mergeV l0 l1 l2).2 w0) := by
  have Hl0 := Lib.hid hr0.1
  have Hl1 := Lib.hid hr1.1
  have Hl2 := Lib.hid hr2.1
  have m0 : n0 ≤ 24 := by rw [← hr0.1]; exact hok.n0
  have m1 : n1 ≤ 24 := by rw [← hr1.1]; exact hok.n1
  have m2 : n2 ≤ 24 := by rw [← hr2.1]; exact hok.n2
  have HK := Lib.hid hok; clear hok
  obtain ⟨i0, hi, hz0, hz1, hz2⟩ := info_parts Try.inf_Setting
  have HZ := Lib.hid (And.intro hz0 hz1); clear hz0 hz1
  go_enter Try.func15, Try.ntmps15
  go_wp2_with fail
  refine (s_l27Conflicts A0 A1 A2 n0 c0 n1 c1 n2 c2 l0 l1 l2 _ hr0 hr1 hr2 HK.out).mono ?_
  rintro e wc ⟨D0, z0, d0, rfl, hgc, hbc⟩
  have hsc := hbc.size
  have hlc := hgc.len
  rcases z0 with _ | z0
  · have hno : conf3 l0 l1 l2 = [] := List.eq_nil_of_length_eq_zero hlc
    have HNO := Lib.hid hno
    clear hgc hlc hno
    go_wp2_with fail
    refine (s_l27Names A0 A1 A2 n0 c0 n1 c1 n2 c2 l0 l1 l2 _ (hr0.below hbc) (hr1.below hbc) (hr2.below hbc) HK.out).mono ?_
    rintro e wn ⟨D, z, d, rfl, hgn, hbn'⟩
    have hbn := hbc.trans (hbn'.mono hsc)
    have HL := Lib.hid hgn.len
    have hz72 : z ≤ 72 := by rw [← hgn.len]; exact names3_few HK.out
    have HRN := Lib.hid hgn.rd
    have hsn := hbn.size
    clear hgn hbn'
    have HS0 : Hid (GL settingE 56 wn.heap.size (wn.alloc (.cells #[] 56)) (.slice (some ⟨wn.heap.size, 0, none⟩) 0 0) (merged l0 l1 l2 ((names3 l0 l1 l2).take 0))) := Lib.hid (GL.mk0 (Nat.le_refl _))
    have hs0 : Below wn.heap.size wn (wn.alloc (.cells #[] 56)) := (Below.refl _ _).alloc (Nat.le_refl _) _
    go_wp2_with fail
    go_loopw [9, 10] (fun t i wr => ∃ (k : Nat) (B : Option Addr) (y q : Nat), k ≤ z ∧ i = .int .i64 k ∧ t = .slice B y q ∧ y ≤ k ∧ Hid (GL settingE 56 wn.heap.size wr (.slice B y q) (merged l0 l1 l2 ((names3 l0 l1 l2).take k))) ∧ Below wn.heap.size wn wr) (fun _ i _ => z - (intOf i).toNat)
    case atStart => exact ⟨0, _, 0, 0, Nat.zero_le _, rfl, rfl, Nat.le_refl _, HS0, hs0⟩
    case round =>
      clear HS0 hs0
      obtain ⟨k, B, y, q, hk, rfl, rfl, hyk, HGL, hb⟩ := hrel
      have hbs := hb.size
      by_cases hlt : k < z
      · obtain ⟨b, off, s, rfl, hs, hcs⟩ := HRN.out.get hlt
        have hc0 := range_below (B := 0) hcs hb 0 _ rfl
        simp only [strE, Nat.mul_one, Nat.add_zero] at hc0
        have HT := Lib.hid (pick_take HK.out hs)
        have HPK := Lib.hid (pick_of (l0 := l0) (l1 := l1) (l2 := l2) s)
        have HQ0 := Lib.hid (hr0.below (hbn.trans (hb.mono hsn)))
        have HQ1 := Lib.hid (hr1.below (hbn.trans (hb.mono hsn)))
        have HQ2 := Lib.hid (hr2.below (hbn.trans (hb.mono hsn)))
        obtain ⟨x0, hx0⟩ : ∃ x, getS l0 s = x := ⟨_, rfl⟩
        obtain ⟨x1, hx1⟩ : ∃ x, getS l1 s = x := ⟨_, rfl⟩
        obtain ⟨x2, hx2⟩ : ∃ x, getS l2 s = x := ⟨_, rfl⟩
        rw [hx0, hx1, hx2] at HPK
        obtain ⟨p, hp⟩ : ∃ p, pick3 l0 l1 l2 s = p := ⟨_, rfl⟩
        rw [hp] at HPK HT
        have HX0 := Lib.hid hx0
        have HX1 := Lib.hid hx1
        have HX2 := Lib.hid hx2
        clear hcs hs hx0 hx1 hx2 hp
        go_wp2_with fail
        refine (s_l27Get A1 n1 c1 l1 s _ HQ1.out (by omega)).mono ?_
        rintro e wg ⟨rfl, hgg⟩
        rw [HX1.out]
        have Ru := range_new wg #[.string x1.fName, .int .i64 x1.fValue] 56
        have bau : Below wg.heap.size wg (wg.alloc (.cells #[.string x1.fName, .int .i64 x1.fValue] 56)) := (Below.refl _ _).alloc (Nat.le_refl _) _
        obtain ⟨w, hWu⟩ : ∃ W, wg.alloc (.cells #[.string x1.fName, .int .i64 x1.fValue] 56) = W := ⟨_, rfl⟩
        rw [hWu] at Ru bau
        have u0 := Ru 0 _ rfl
        have u1 := Ru 1 _ rfl
        simp only [Nat.zero_add] at u0 u1
        clear Ru
        have hgw := hgg.trans (bau.mono hgg.size)
        have hgn5 : wn.heap.size ≤ wg.heap.size := Nat.le_trans hbs hgg.size
        have hfr : ∀ j, w.frozen? ⟨wg.heap.size, j, none⟩ = false := fun j => by rw [← hWu]; exact new_free wg #[.string x1.fName, .int .i64 x1.fValue] 56 j
        have hgW : wg.heap.size < w.heap.size := by rw [← hWu]; simp
        have hcW := cell_later hgw hc0
        have hbW := hb.trans (hgw.mono hbs)
        have hbsW := hbW.size
        have hglW := HGL.out.below hgw
        have HNG : Hid (∀ j, Value.ownBlock (.slice B y q) = some j → j ≠ wg.heap.size) := Lib.hid fun j hj => by have := (HGL.out.lt j hj).2; have := hgg.size; omega
        have HV : Hid (∀ W, Below w.heap.size w W → Calls Try.prog 36 #[.slice A0 n0 c0, .string s] W fun e w' => e = .returned (.agg #[.string x0.fName, .int .i64 x0.fValue]) ∧ Below W.heap.size W w') := Lib.hid fun W h => by
          have h2 := s_l27Get A0 n0 c0 l0 s W ((HQ0.out.below hgw).below h) (by omega)
          rw [HX0.out] at h2
          exact h2
        have HQ2W := Lib.hid (HQ2.out.below hgw)
        have HFR := Lib.hid hfr
        have hn := fun W => run_eql_Setting x1 x0 W
        clear hgg bau hc0 HQ0 HQ1 HQ2 hgw HGL hb hbs hfr
        go_wp2_with fail
        try rw [hWu]
        clear hWu
        rcases hq : x1.eqv x0 with _ | _
        · have HP : Hid (p = x1) := Lib.hid (by rw [HPK.out, hq]; rfl)
          rw [hq] at hn
          clear hq
          let S : World → Prop := fun w' => w'.cell? ⟨wg.heap.size, 0, none⟩ = some (.string x1.fName) ∧ w'.cell? ⟨wg.heap.size, 1, none⟩ = some (.int .i64 x1.fValue) ∧ w'.cell? ⟨b, off + k, none⟩ = some (.string s) ∧ Below w.heap.size w w'
          have hS : S (World.drew w) := ⟨u0, u1, hcW, (Below.refl w.heap.size w).drew⟩
          have hne : Nonempty (Wd S) := ⟨⟨_, hS⟩⟩
          have qc0 : ∀ t : Wd S, t.w.cell? ⟨wg.heap.size, 0, none⟩ = some (.string x1.fName) := fun t => t.h.1
          have qc1 : ∀ t : Wd S, t.w.cell? ⟨wg.heap.size, 1, none⟩ = some (.int .i64 x1.fValue) := fun t => t.h.2.1
          have qc2 : ∀ t : Wd S, t.w.cell? ⟨b, off + k, none⟩ = some (.string s) := fun t => t.h.2.2.1
          have Q9 : Hid (∀ (t : Wd S) (w' : World), Below t.w.heap.size t.w w' → S w') := Lib.hid (fun t w' h => ⟨cell_later h t.h.1, cell_later h t.h.2.1, cell_later h t.h.2.2.1, t.h.2.2.2.trans (h.mono t.h.2.2.2.size)⟩)
          have QE : Hid (∀ w', S w' → w'.cell? ⟨wg.heap.size, 0, none⟩ = some (.string x1.fName) ∧ w'.cell? ⟨wg.heap.size, 1, none⟩ = some (.int .i64 x1.fValue) ∧ w'.cell? ⟨b, off + k, none⟩ = some (.string s) ∧ Below w.heap.size w w') := Lib.hid (fun w' h => h)
          refine wp_region_class S (by kernel_rfl) (by kernel_rfl) hS ?_
          clear_value S
          repeat (go_big_quiet_step ((first | (go_at_call 36; exact class_call _ (HV.out _ (QE.out _ (Wd.h _)).2.2.2) (fun e w' h => ⟨h.1, Q9.out _ _ h.2⟩)))))
          refine wpQuiet_nil ?_
          rintro _ ⟨⟨w1, hw1⟩, rfl⟩
          have hE := QE.out _ hw1
          have hbC := hE.2.2.2
          clear hE
          try dsimp only
          clear hw1 hS hne Q9 QE qc0 qc1 qc2
          obtain ⟨w1, rfl, hbC' ⟩ := nameWM hbC
          clear hbC
          have hbC := hbC'
          replace u0 := cell_later hbC u0
          replace u1 := cell_later hbC u1
          have hglC := hglW.below hbC
          have hbE := hbW.trans (hbC.mono hbsW)
          have hsE := hbE.size
          clear hglW hn HV hcW
          by_cases hem : x1.fName = ⟨#[]⟩
          · have hne : (x1.fName.toList == ([] : List UInt8)) = true := by rw [empty_iff]; exact decide_eq_true hem
            have HG3 : Hid (GL settingE 56 wn.heap.size w1 (.slice B y q) (merged l0 l1 l2 ((names3 l0 l1 l2).take (k + 1)))) := Lib.hid (by rw [HT.out, HP.out, if_pos hem]; exact hglC)
            clear hem hglC
            go_wp2
            first | (refine ⟨⟨k + 1, B, y, q, by omega, by go_num, rfl, by omega, HG3, hbE⟩, ?_⟩; (simp [intOf]; omega)) | (go_roundw; (case rel => first | exact ⟨k + 1, B, y, q, by omega, by go_num, rfl, by omega, HG3, hbE⟩ | ((try refine ⟨trivial, ?_⟩); (repeat apply Exists.intro); exact ⟨⟨k + 1, B, y, q, by omega, by go_num, rfl, by omega, HG3, hbE⟩, rfl⟩)); (case measure => (simp [intOf]; omega)))
          · have hne : (x1.fName.toList == ([] : List UInt8)) = false := by rw [empty_iff]; exact decide_eq_false hem
            have HT2 : Hid (merged l0 l1 l2 ((names3 l0 l1 l2).take (k + 1)) = merged l0 l1 l2 ((names3 l0 l1 l2).take k) ++ [x1]) := Lib.hid (by rw [HT.out, HP.out, if_neg hem])
            clear hem
            go_wp2_with (at_builtin; refine wpList_pushO settingE rfl _ _ 38 rfl wn.heap.size 56 i0 _ 24 Try.underlying38 hi HZ.out.1 HZ.out.2 hz2 rfl B y q (merged l0 l1 l2 ((names3 l0 l1 l2).take k)) x1 rfl (hglC.alloc _) w1.heap.size rfl (range_new _ _ _) (by omega) (by decide) (Nat.le_trans hsE (by simp)) ?_; intro BB7 cc7 w7 hgl7 ht7 hn7; have hb7 := Below.touch (hbE.alloc hsE (.cells #[.string x1.fName, .int .i64 x1.fValue] 56)) ht7 (fun k hk => (hglC.lt k hk).1) (Nat.le_trans hsE (by simp)); have hbs7 := hb7.size; clear ht7 hn7)
            have HG3 : Hid (GL settingE 56 wn.heap.size w7 (.slice BB7 (y + 1) cc7) (merged l0 l1 l2 ((names3 l0 l1 l2).take (k + 1)))) := Lib.hid (by rw [HT2.out]; exact hgl7)
            clear hgl7 hglC
            go_wp2
            first | (refine ⟨⟨k + 1, BB7, y + 1, cc7, by omega, by go_num, rfl, by omega, HG3, hb7⟩, ?_⟩; (simp [intOf]; omega)) | (go_roundw; (case rel => first | exact ⟨k + 1, BB7, y + 1, cc7, by omega, by go_num, rfl, by omega, HG3, hb7⟩ | ((try refine ⟨trivial, ?_⟩); (repeat apply Exists.intro); exact ⟨⟨k + 1, BB7, y + 1, cc7, by omega, by go_num, rfl, by omega, HG3, hb7⟩, rfl⟩)); (case measure => (simp [intOf]; omega)))
        · have HP : Hid (p = x2) := Lib.hid (by rw [HPK.out, hq]; rfl)
          rw [hq] at hn
          clear hq
          let S : World → Prop := fun w' => w'.cell? ⟨wg.heap.size, 0, none⟩ = some (.string x1.fName) ∧ w'.cell? ⟨wg.heap.size, 1, none⟩ = some (.int .i64 x1.fValue) ∧ w'.cell? ⟨b, off + k, none⟩ = some (.string s) ∧ Below w.heap.size w w'
          have hS : S (World.drew w) := ⟨u0, u1, hcW, (Below.refl w.heap.size w).drew⟩
          have hne : Nonempty (Wd S) := ⟨⟨_, hS⟩⟩
          have qc0 : ∀ t : Wd S, t.w.cell? ⟨wg.heap.size, 0, none⟩ = some (.string x1.fName) := fun t => t.h.1
          have qc1 : ∀ t : Wd S, t.w.cell? ⟨wg.heap.size, 1, none⟩ = some (.int .i64 x1.fValue) := fun t => t.h.2.1
          have qc2 : ∀ t : Wd S, t.w.cell? ⟨b, off + k, none⟩ = some (.string s) := fun t => t.h.2.2.1
          have Q9 : Hid (∀ (t : Wd S) (w' : World), Below t.w.heap.size t.w w' → S w') := Lib.hid (fun t w' h => ⟨cell_later h t.h.1, cell_later h t.h.2.1, cell_later h t.h.2.2.1, t.h.2.2.2.trans (h.mono t.h.2.2.2.size)⟩)
          have QE : Hid (∀ w', S w' → w'.cell? ⟨wg.heap.size, 0, none⟩ = some (.string x1.fName) ∧ w'.cell? ⟨wg.heap.size, 1, none⟩ = some (.int .i64 x1.fValue) ∧ w'.cell? ⟨b, off + k, none⟩ = some (.string s) ∧ Below w.heap.size w w') := Lib.hid (fun w' h => h)
          refine wp_region_class S (by kernel_rfl) (by kernel_rfl) hS ?_
          clear_value S
          repeat (go_big_quiet_step ((first | (go_at_call 36; exact class_call _ (HV.out _ (QE.out _ (Wd.h _)).2.2.2) (fun e w' h => ⟨h.1, Q9.out _ _ h.2⟩)))))
          refine wpQuiet_nil ?_
          rintro _ ⟨⟨w1, hw1⟩, rfl⟩
          have hE := QE.out _ hw1
          have hbC := hE.2.2.2
          clear hE
          try dsimp only
          clear hw1 hS hne Q9 QE qc0 qc1 qc2
          obtain ⟨w1, rfl, hbC' ⟩ := nameWM hbC
          clear hbC
          have hbC := hbC'
          replace u0 := cell_later hbC u0
          replace u1 := cell_later hbC u1
          replace hcW := cell_later hbC hcW
          have hglC := hglW.below hbC
          have hbE := hbW.trans (hbC.mono hbsW)
          have hsE := hbE.size
          have hQ := HQ2W.out.below hbC
          clear hglW hn HV
          go_wp2_with fail
          refine (s_l27Get A2 n2 c2 l2 s _ hQ (by omega)).mono ?_
          rintro e w5 ⟨rfl, hg5⟩
          rw [HX2.out]
          replace u0 := cell_later hg5 u0
          replace u1 := cell_later hg5 u1
          have hf := fun j => free_later (free_later (HFR.out j) hgW hbC) (Nat.lt_of_lt_of_le hgW hbC.size) hg5
          have f0 := hf 0
          have f1 := hf 1
          have hbE5 := hbE.trans (hg5.mono hsE)
          have hgl5 := hglC.below hg5
          have HS := set_cells (w := w5) (g := wg.heap.size) [.string x2.fName, .int .i64 x2.fValue] 0 (fun j hj => by
            match j, hj with
            | 0, _ => exact ⟨_, u0⟩
            | 1, _ => exact ⟨_, u1⟩)
          have hT5 : Touch (fun k => k = wg.heap.size) w5 (w5.setCells wg.heap.size 0 [.string x2.fName, .int .i64 x2.fValue]) := Touch.setCells (F := fun k => k = wg.heap.size) rfl _ _
          have hgl6 := hgl5.touch hT5 HNG.out
          have hb6 := below_setCells hgn5 [.string x2.fName, .int .i64 x2.fValue] 0 hbE5
          clear hglC hgl5 hT5 hbE5 hg5 hf hbE hsE
          go_upto_region 11 with fail
          obtain ⟨W6, hW6⟩ : ∃ W, (w5.setCell ⟨wg.heap.size, 0, none⟩ (.string x2.fName)).setCell ⟨wg.heap.size, 1, none⟩ (.int .i64 x2.fValue) = W := ⟨_, rfl⟩
          rw [show w5.setCells wg.heap.size 0 [.string x2.fName, .int .i64 x2.fValue] = W6 from hW6] at HS hgl6 hb6
          try rw [hW6]
          clear hW6
          have hs6 := hb6.size
          have v0 := HS 0 _ rfl
          have v1 := HS 1 _ rfl
          simp only [Nat.zero_add] at v0 v1
          clear HS u0 u1 f0 f1
          by_cases hem : x2.fName = ⟨#[]⟩
          · have hne : (x2.fName.toList == ([] : List UInt8)) = true := by rw [empty_iff]; exact decide_eq_true hem
            have HG3 : Hid (GL settingE 56 wn.heap.size W6 (.slice B y q) (merged l0 l1 l2 ((names3 l0 l1 l2).take (k + 1)))) := Lib.hid (by rw [HT.out, HP.out, if_pos hem]; exact hgl6)
            clear hem hgl6
            go_wp2
            first | (refine ⟨⟨k + 1, B, y, q, by omega, by go_num, rfl, by omega, HG3, hb6⟩, ?_⟩; (simp [intOf]; omega)) | (go_roundw; (case rel => first | exact ⟨k + 1, B, y, q, by omega, by go_num, rfl, by omega, HG3, hb6⟩ | ((try refine ⟨trivial, ?_⟩); (repeat apply Exists.intro); exact ⟨⟨k + 1, B, y, q, by omega, by go_num, rfl, by omega, HG3, hb6⟩, rfl⟩)); (case measure => (simp [intOf]; omega)))
          · have hne : (x2.fName.toList == ([] : List UInt8)) = false := by rw [empty_iff]; exact decide_eq_false hem
            have HT2 : Hid (merged l0 l1 l2 ((names3 l0 l1 l2).take (k + 1)) = merged l0 l1 l2 ((names3 l0 l1 l2).take k) ++ [x2]) := Lib.hid (by rw [HT.out, HP.out, if_neg hem])
            clear hem
            go_wp2_with (at_builtin; refine wpList_pushO settingE rfl _ _ 38 rfl wn.heap.size 56 i0 _ 24 Try.underlying38 hi HZ.out.1 HZ.out.2 hz2 rfl B y q (merged l0 l1 l2 ((names3 l0 l1 l2).take k)) x2 rfl (hgl6.alloc _) W6.heap.size rfl (range_new _ _ _) (by omega) (by decide) (Nat.le_trans hs6 (by simp)) ?_; intro BB7 cc7 w7 hgl7 ht7 hn7; have hb7 := Below.touch (hb6.alloc hs6 (.cells #[.string x2.fName, .int .i64 x2.fValue] 56)) ht7 (fun k hk => (hgl6.lt k hk).1) (Nat.le_trans hs6 (by simp)); have hbs7 := hb7.size; clear ht7 hn7)
            have HG3 : Hid (GL settingE 56 wn.heap.size w7 (.slice BB7 (y + 1) cc7) (merged l0 l1 l2 ((names3 l0 l1 l2).take (k + 1)))) := Lib.hid (by rw [HT2.out]; exact hgl7)
            clear hgl7 hgl6
            go_wp2
            first | (refine ⟨⟨k + 1, BB7, y + 1, cc7, by omega, by go_num, rfl, by omega, HG3, hb7⟩, ?_⟩; (simp [intOf]; omega)) | (go_roundw; (case rel => first | exact ⟨k + 1, BB7, y + 1, cc7, by omega, by go_num, rfl, by omega, HG3, hb7⟩ | ((try refine ⟨trivial, ?_⟩); (repeat apply Exists.intro); exact ⟨⟨k + 1, BB7, y + 1, cc7, by omega, by go_num, rfl, by omega, HG3, hb7⟩, rfl⟩)); (case measure => (simp [intOf]; omega)))
      · obtain rfl : k = z := by omega
        have E1 : Hid (merged l0 l1 l2 ((names3 l0 l1 l2).take k) = merged l0 l1 l2 (names3 l0 l1 l2)) := Lib.hid (by rw [List.take_of_length_le (Nat.le_of_eq HL.out)])
        have hbF := hbn.trans (hb.mono hsn)
        have hgF : GL settingE 56 w0.heap.size wr (.slice B y q) (merged l0 l1 l2 (names3 l0 l1 l2)) := by rw [← E1.out]; exact HGL.out.mono hsn
        have HLY := Lib.hid hgF.len
        have HGF := Lib.hid hgF
        clear HGL hgF
        by_cases h24 : 24 < y
        · have EM := Lib.hid (mergeV_full HNO.out (by rw [HLY.out]; exact h24))
          go_wp2
          go_ret2
          exact RetLC.nil (by rw [EM.out]) (by rw [EM.out]) hbF
        · have EM := Lib.hid (mergeV_ok HNO.out (by rw [HLY.out]; omega))
          go_wp2
          go_ret2
          exact RetLC.mk HGF.out (by omega) (by rw [EM.out]) (by rw [EM.out]) hbF
  · have EM := Lib.hid (mergeV_conf (base := l0) (a := l1) (b := l2) (fun e => by rw [e] at hlc; cases hlc))
    clear hgc hlc
    go_wp2
    go_ret2
    exact RetLC.nil (by rw [EM.out]) (by rw [EM.out]) hbc
end Go.Proofs.Ytfabijhilfjkcaa
