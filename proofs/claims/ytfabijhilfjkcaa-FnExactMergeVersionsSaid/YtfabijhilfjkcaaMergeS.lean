/- Settings of the reference: found, put, all names, conflicts, merged. Printed by a program of mine. -/
import Derived.Test.YtfabijhilfjkcaaRows
import Derived.Test.YtfabijhilfjkcaaCSetting
import Derived.Test.YtfabijhilfjkcaaSetAt
import Derived.Test.YtfabijhilfjkcaaSlSetting
import Derived.Test.YtfabijhilfjkcaaResG
import Derived.Test.YtfabijhilfjkcaaTwo
import Derived.Test.YtfabijhilfjkcaaOrd
namespace Go.Proofs.Ytfabijhilfjkcaa
set_option linter.unusedVariables false
set_option linter.unusedSimpArgs false
set_option linter.unusedSectionVars false
open Go.RowKit
set_option maxRecDepth 100000

theorem s_l27At (A : Option Addr) (n c : Nat) (l : List DSetting) (nm : ByteArray) (w : World) (hr : Rd settingE w A n l) (hn : n ≤ 1048576) :
    Calls Try.prog 56 #[.slice A n c, .string nm] w fun e w' => ∃ v : Int, Hid (FoundAt l nm n v) ∧ e = .returned (.int .i64 v) ∧ w = w' := by
  have Hl := Lib.hid hr.1
  go_enter Try.func56, Try.ntmps56
  go_wp2_with fail
  go_loop [5] (fun i => ∃ k : Nat, k ≤ n ∧ i = .int .i64 k ∧ Hid (NoName l nm k)) (fun i => n - (intOf i).toNat)
  case atStart => exact ⟨0, Nat.zero_le _, rfl, Lib.hid (noName_zero l nm)⟩
  case round =>
    obtain ⟨k, hk, rfl, HH⟩ := hrel
    by_cases hlt : k < n
    · obtain ⟨b, off, x, rfl, hx, hcs⟩ := hr.get hlt
      have hc0 := hcs 0 _ rfl
      simp only [settingE, Nat.add_zero] at hc0
      have HX := Lib.hid hx
      clear hcs hx
      rcases h1 : x.fName.toList == nm.toList with _ | _
      · have HN : Hid (NoName l nm (k + 1)) := Lib.hid (noName_next HH.out HX.out (by rw [eqS_iff] at h1; exact of_decide_eq_false h1))
        go_wp2
        first | (refine ⟨⟨k + 1, by omega, by go_num, HN⟩, ?_⟩; (simp [intOf]; omega)) | (go_round; (case rel => first | exact ⟨k + 1, by omega, by go_num, HN⟩ | ((try refine ⟨trivial, ?_⟩); (repeat apply Exists.intro); exact ⟨⟨k + 1, by omega, by go_num, HN⟩, rfl⟩)); (case measure => (simp [intOf]; omega)))
      · have E : Hid (atS l nm = some x) := Lib.hid (at_first HX.out (by rw [eqS_iff] at h1; exact of_decide_eq_true h1) HH.out)
        go_wp2
        go_ret
        exact ⟨k, Lib.hid (.inr ⟨k, x, rfl, hlt, HX.out, E.out⟩), rfl, rfl⟩
    · have E : Hid (atS l nm = none) := Lib.hid (noName_all (n := k) HH.out (by have := Hl.out; omega))
      go_wp2
      go_ret
      exact ⟨-1, Lib.hid (.inl ⟨rfl, E.out⟩), rfl, rfl⟩

set_option maxHeartbeats 1000000 in
theorem s_l27Get (A : Option Addr) (n c : Nat) (l : List DSetting) (nm : ByteArray) (w : World) (hr : Rd settingE w A n l) (hn : n ≤ 1048576) :
    Calls Try.prog 36 #[.slice A n c, .string nm] w fun e w' => e = .returned (.agg #[.string (getS l nm).fName, .int .i64 (getS l nm).fValue]) ∧ Below w.heap.size w w' := by
  have hR := range_new w #[.string ⟨#[]⟩, .int .i64 0] 56
  have hba : Below w.heap.size w (w.alloc (.cells #[.string ⟨#[]⟩, .int .i64 0] 56)) := (Below.refl _ _).alloc (Nat.le_refl _) _
  have hf := fun j => new_free w #[.string ⟨#[]⟩, .int .i64 0] 56 j
  obtain ⟨W0, hW0⟩ : ∃ W0, w.alloc (.cells #[.string ⟨#[]⟩, .int .i64 0] 56) = W0 := ⟨_, rfl⟩
  rw [hW0] at hR hba hf
  have r0 := hR 0 _ rfl
  have r1 := hR 1 _ rfl
  simp only [Nat.zero_add] at r0 r1
  have f0 := hf 0
  have f1 := hf 1
  clear hR hf
  have hbs := hba.size
  obtain ⟨g, hg⟩ : ∃ g, w.heap.size = g := ⟨_, rfl⟩
  rw [hg] at r0 r1 f0 f1
  go_enter Try.func36, Try.ntmps36
  go_wp2_with fail
  try rw [hW0]
  try rw [hg]
  clear hW0
  refine (s_l27At A n c l nm W0 (hr.below hba) hn).mono ?_
  rintro e w1 ⟨v, hv, rfl, rfl⟩
  have HS := fun (a : ByteArray) (b : Int) => set_cells (w := W0) (g := g) [.string a, .int .i64 b] 0 (fun j hj => by
    match j, hj with
    | 0, _ => exact ⟨_, r0⟩
    | 1, _ => exact ⟨_, r1⟩)
  have HB := fun (a : ByteArray) (b : Int) => below_setCells (B := w.heap.size) (g := g) (by omega) [.string a, .int .i64 b] 0 hba
  obtain ⟨rfl, hno⟩ | ⟨k, x, rfl, hkn, hx, hat⟩ := hv.out
  · have E := Lib.hid (get_none hno).1
    have HF := HS ⟨#[]⟩ 0
    have hbF := HB ⟨#[]⟩ 0
    clear hv hno HS HB hba
    go_wp2
    change bodyPost _ _ _ _ _ (W0.setCells g 0 [.string ⟨#[]⟩, .int .i64 0])
    generalize W0.setCells g 0 [.string ⟨#[]⟩, .int .i64 0] = Wf at *
    have q0 := HF 0 _ rfl
    have q1 := HF 1 _ rfl
    simp only [Nat.zero_add] at q0 q1
    exact bodyPost_ret (v := .agg #[.string ⟨#[]⟩, .int .i64 0]) (by simp [results, Try.results36, go_sem, q0, q1]) rfl ⟨by rw [E.out], hbF⟩
  · obtain ⟨b, off, x', rfl, hx', hcs⟩ := (hr.below hba).get hkn
    rw [hx] at hx'
    cases hx'
    have hc0 := hcs 0 _ rfl
    have hc1 := hcs 1 _ rfl
    simp only [Nat.add_zero, settingE] at hc0 hc1
    have E := Lib.hid (get_some hat).1
    have HF := HS x.fName x.fValue
    have hbF := HB x.fName x.fValue
    clear hv hx hat HS HB hba hcs
    go_wp2
    change bodyPost _ _ _ _ _ (W0.setCells g 0 [.string x.fName, .int .i64 x.fValue])
    generalize W0.setCells g 0 [.string x.fName, .int .i64 x.fValue] = Wf at *
    have q0 := HF 0 _ rfl
    have q1 := HF 1 _ rfl
    simp only [Nat.zero_add] at q0 q1
    exact bodyPost_ret (v := .agg #[.string x.fName, .int .i64 x.fValue]) (by simp [results, Try.results36, go_sem, q0, q1]) rfl ⟨by rw [E.out], hbF⟩


set_option maxHeartbeats 4000000 in
theorem s_l27Set (A : Option Addr) (n c : Nat) (l : List DSetting) (e : DSetting) (w : World) (hr : Rd settingE w A n l) (hn : n ≤ 1000) (ha : AscS (nmS l)) :
    Calls Try.prog 55 #[.slice A n c, .agg #[.string e.fName, .int .i64 e.fValue]] w fun en w' => ∃ B z c2, en = .returned (.slice B z c2) ∧ GL settingE 56 w.heap.size w' (.slice B z c2) (setS l e) ∧ Below w.heap.size w w' := by
  obtain ⟨i0, hi, hz0, hz1, hz2⟩ := info_parts Try.inf_Setting
  have HZ := Lib.hid (And.intro hz0 hz1); clear hz0 hz1
  have Hl := Lib.hid hr.1
  have HA := Lib.hid ha; clear ha
  have hR := range_new w #[.string e.fName, .int .i64 e.fValue] 56
  have hbw : Below w.heap.size w (w.alloc (.cells #[.string e.fName, .int .i64 e.fValue] 56)) := (Below.refl _ _).alloc (Nat.le_refl _) _
  obtain ⟨W0, hW0⟩ : ∃ W0, w.alloc (.cells #[.string e.fName, .int .i64 e.fValue] 56) = W0 := ⟨_, rfl⟩
  rw [hW0] at hR hbw
  have hsw := hbw.size
  obtain ⟨g, hg⟩ : ∃ g, w.heap.size = g := ⟨_, rfl⟩
  rw [hg] at hR
  have HG0 : Hid (GL settingE 56 W0.heap.size (W0.alloc (.cells #[] 56)) (.slice (some ⟨W0.heap.size, 0, none⟩) 0 0) []) := Lib.hid (GL.mk0 (Nat.le_refl _))
  have hb0 : Below W0.heap.size W0 (W0.alloc (.cells #[] 56)) := (Below.refl _ _).alloc (Nat.le_refl _) _
  go_enter Try.func55, Try.ntmps55
  go_wp2_with fail
  try rw [hW0]
  try rw [hg]
  clear hW0
  go_loopw [5, 6, 7] (fun t d i wr => ∃ (k : Nat) (o : List DSetting) (dn : Bool) (B : Option Addr) (z c2 : Nat), k ≤ n ∧ i = .int .i64 k ∧ d = .bool dn ∧ t = .slice B z c2 ∧ Hid (GL settingE 56 W0.heap.size wr (.slice B z c2) o) ∧ Hid (PutSt l e k dn o) ∧ Below W0.heap.size W0 wr) (fun _ _ i _ => n - (intOf i).toNat)
  case atStart => exact ⟨0, [], false, _, 0, 0, Nat.zero_le _, rfl, rfl, rfl, HG0, Lib.hid (put_zero l e), hb0⟩
  case round =>
    obtain ⟨k, o, dn, B, z, c2, hk, rfl, rfl, rfl, HGL, HP, hb⟩ := hrel
    clear HG0 hb0
    have hgl := HGL.out
    have hbs := hb.size
    have hzk : z ≤ k + 1 := by rw [← hgl.len]; exact put_few HP.out (by rw [Hl.out]; exact hk)
    have he := range_below (B := 0) hR hb
    have he0 := he 0 _ rfl
    have he1 := he 1 _ rfl
    simp only [Nat.zero_add] at he0 he1
    have HE := Lib.hid he
    clear he
    by_cases hlt : k < n
    · obtain ⟨b, off, x, rfl, hx, hcs⟩ := hr.get hlt
      have hcr := range_below (B := 0) hcs (hbw.trans (hb.mono hsw))
      have hc0 := hcr 0 _ rfl
      have hc1 := hcr 1 _ rfl
      simp only [settingE, Nat.add_zero] at hc0 hc1
      have HCW := Lib.hid hcs
      have HX := Lib.hid hx
      clear hcr hcs hx
      rcases dn with _ | _
      · rcases hlt1 : Op.bytesLess x.fName.toList e.fName.toList with _ | _
        · have HN := Lib.hid (put_hit HP.out HX.out hlt1)
          clear HP HGL
          go_wp2_with fail
          go_quiet (fail)
          obtain ⟨wq1, hwq, hq1⟩ : ∃ W, wr.drewN nq = W ∧ Below wr.heap.size wr W := ⟨_, rfl, below_drewN (Below.refl _ _) _⟩
          rw [hwq]
          clear hwq
          have hbq1 := hb.trans (hq1.mono hbs)
          have hbsq1 := hbq1.size
          replace he0 := cell_later hq1 he0
          replace he1 := cell_later hq1 he1
          replace hc0 := cell_later hq1 hc0
          replace hc1 := cell_later hq1 hc1
          have hglq1 := hgl.below hq1
          go_wp2_with (at_builtin; refine wpList_pushO settingE rfl _ _ 38 rfl W0.heap.size 56 i0 _ 24 Try.underlying38 hi HZ.out.1 HZ.out.2 hz2 rfl B z c2 o e rfl (hglq1.alloc _) wq1.heap.size rfl (range_new _ _ _) (by omega) (by decide) (Nat.le_trans hbsq1 (by simp)) ?_; intro BB2 cc2 w2 hgl2 ht2 hn2; have hb2 := Below.touch (hbq1.alloc hbsq1 (.cells #[.string e.fName, .int .i64 e.fValue] 56)) ht2 (fun k hk => (hglq1.lt k hk).1) (Nat.le_trans hbsq1 (by simp)); have hbs2 := hb2.size; clear ht2 hn2; have he := range_below (B := 0) hR hb2; have he0 := he 0 _ rfl; simp only [Nat.zero_add] at he0; have hcr := range_below (B := 0) HCW.out (hbw.trans (hb2.mono hsw)); have hc0 := hcr 0 _ rfl; have hc1 := hcr 1 _ rfl; simp only [settingE, Nat.add_zero] at hc0 hc1; clear he hcr)
          have hglP := hgl2
          by_cases hnm : x.fName = e.fName
          · have hne : (x.fName.toList == e.fName.toList) = true := by rw [eqS_iff]; exact decide_eq_true hnm
            rw [if_pos hnm] at HN
            clear hnm
            go_quiet (fail)
            obtain ⟨wq2, hwq, hq2⟩ : ∃ W, w2.drewN nq = W ∧ Below w2.heap.size w2 W := ⟨_, rfl, below_drewN (Below.refl _ _) _⟩
            rw [hwq]
            clear hwq
            have HG3 := Lib.hid (hglP.below hq2)
            have hb3 := hb2.trans (hq2.mono hbs2)
            clear hgl hglq1 hgl2 hglP hq2
            go_wp2
            first | (refine ⟨⟨k + 1, o ++ [e], true, BB2, z + 1, cc2, by omega, by go_num, rfl, rfl, HG3, HN, hb3⟩, ?_⟩; (simp [intOf]; omega)) | (go_roundw; (case rel => first | exact ⟨k + 1, o ++ [e], true, BB2, z + 1, cc2, by omega, by go_num, rfl, rfl, HG3, HN, hb3⟩ | ((try refine ⟨trivial, ?_⟩); (repeat apply Exists.intro); exact ⟨⟨k + 1, o ++ [e], true, BB2, z + 1, cc2, by omega, by go_num, rfl, rfl, HG3, HN, hb3⟩, rfl⟩)); (case measure => (simp [intOf]; omega)))
          · have hne : (x.fName.toList == e.fName.toList) = false := by rw [eqS_iff]; exact decide_eq_false hnm
            rw [if_neg hnm] at HN
            clear hnm
            go_quiet (fail)
            obtain ⟨wq2, hwq, hq2⟩ : ∃ W, w2.drewN nq = W ∧ Below w2.heap.size w2 W := ⟨_, rfl, below_drewN (Below.refl _ _) _⟩
            rw [hwq]
            clear hwq
            have hglq2 := hglP.below hq2
            have hbq2 := hb2.trans (hq2.mono hbs2)
            have hbsq2 := hbq2.size
            replace hc0 := cell_later hq2 hc0
            replace hc1 := cell_later hq2 hc1
            go_wp2_with (at_builtin; refine wpList_pushO settingE rfl _ _ 38 rfl W0.heap.size 56 i0 _ 24 Try.underlying38 hi HZ.out.1 HZ.out.2 hz2 rfl BB2 (z + 1) cc2 (o ++ [e]) x rfl (hglq2.alloc _) wq2.heap.size rfl (range_new _ _ _) (by omega) (by decide) (Nat.le_trans hbsq2 (by simp)) ?_; intro BB3 cc3 w3 hgl3 ht3 hn3; have hb3 := Below.touch (hbq2.alloc hbsq2 (.cells #[.string x.fName, .int .i64 x.fValue] 56)) ht3 (fun k hk => (hglq2.lt k hk).1) (Nat.le_trans hbsq2 (by simp)); have hbs3 := hb3.size; clear ht3 hn3)
            have HG3 := Lib.hid hgl3
            clear hgl hglq1 hgl2 hglP hq2 hglq2 hgl3
            go_wp2
            first | (refine ⟨⟨k + 1, o ++ [e] ++ [x], true, BB3, z + 1 + 1, cc3, by omega, by go_num, rfl, rfl, HG3, HN, hb3⟩, ?_⟩; (simp [intOf]; omega)) | (go_roundw; (case rel => first | exact ⟨k + 1, o ++ [e] ++ [x], true, BB3, z + 1 + 1, cc3, by omega, by go_num, rfl, rfl, HG3, HN, hb3⟩ | ((try refine ⟨trivial, ?_⟩); (repeat apply Exists.intro); exact ⟨⟨k + 1, o ++ [e] ++ [x], true, BB3, z + 1 + 1, cc3, by omega, by go_num, rfl, rfl, HG3, HN, hb3⟩, rfl⟩)); (case measure => (simp [intOf]; omega)))
        · obtain ⟨hN, hneq⟩ := put_low HP.out HX.out hlt1
          have HN := Lib.hid hN
          have hne : (x.fName.toList == e.fName.toList) = false := by rw [eqS_iff]; exact decide_eq_false hneq
          clear HP HGL hN hneq
          go_wp2_with fail
          go_quiet (fail)
          obtain ⟨wq1, hwq, hq1⟩ : ∃ W, wr.drewN nq = W ∧ Below wr.heap.size wr W := ⟨_, rfl, below_drewN (Below.refl _ _) _⟩
          rw [hwq]
          clear hwq
          have hbq1 := hb.trans (hq1.mono hbs)
          have hbsq1 := hbq1.size
          replace he0 := cell_later hq1 he0
          replace he1 := cell_later hq1 he1
          replace hc0 := cell_later hq1 hc0
          replace hc1 := cell_later hq1 hc1
          have hglq1 := hgl.below hq1
          go_wp2_with fail
          go_quiet (fail)
          obtain ⟨wq2, hwq, hq2⟩ : ∃ W, wq1.drewN nq = W ∧ Below wq1.heap.size wq1 W := ⟨_, rfl, below_drewN (Below.refl _ _) _⟩
          rw [hwq]
          clear hwq
          have hbq2 := hbq1.trans (hq2.mono hbsq1)
          have hbsq2 := hbq2.size
          replace he0 := cell_later hq2 he0
          replace he1 := cell_later hq2 he1
          replace hc0 := cell_later hq2 hc0
          replace hc1 := cell_later hq2 hc1
          have hglq2 := hglq1.below hq2
          clear hglq1
          have hglq1 := hglq2
          go_wp2_with (at_builtin; refine wpList_pushO settingE rfl _ _ 38 rfl W0.heap.size 56 i0 _ 24 Try.underlying38 hi HZ.out.1 HZ.out.2 hz2 rfl B z c2 o x rfl (hglq2.alloc _) wq2.heap.size rfl (range_new _ _ _) (by omega) (by decide) (Nat.le_trans hbsq2 (by simp)) ?_; intro BB2 cc2 w2 hgl2 ht2 hn2; have hb2 := Below.touch (hbq2.alloc hbsq2 (.cells #[.string x.fName, .int .i64 x.fValue] 56)) ht2 (fun k hk => (hglq2.lt k hk).1) (Nat.le_trans hbsq2 (by simp)); have hbs2 := hb2.size; clear ht2 hn2)
          have HG2 := Lib.hid hgl2
          clear hgl hglq1 hgl2
          go_wp2
          first | (refine ⟨⟨k + 1, o ++ [x], false, BB2, z + 1, cc2, by omega, by go_num, rfl, rfl, HG2, HN, hb2⟩, ?_⟩; (simp [intOf]; omega)) | (go_roundw; (case rel => first | exact ⟨k + 1, o ++ [x], false, BB2, z + 1, cc2, by omega, by go_num, rfl, rfl, HG2, HN, hb2⟩ | ((try refine ⟨trivial, ?_⟩); (repeat apply Exists.intro); exact ⟨⟨k + 1, o ++ [x], false, BB2, z + 1, cc2, by omega, by go_num, rfl, rfl, HG2, HN, hb2⟩, rfl⟩)); (case measure => (simp [intOf]; omega)))
      · obtain ⟨hN, hneq⟩ := put_past HA.out HP.out HX.out
        have HN := Lib.hid hN
        have hne : (x.fName.toList == e.fName.toList) = false := by rw [eqS_iff]; exact decide_eq_false hneq
        clear HP HGL hN hneq
        go_wp2_with fail
        go_quiet (fail)
        obtain ⟨wq1, hwq, hq1⟩ : ∃ W, wr.drewN nq = W ∧ Below wr.heap.size wr W := ⟨_, rfl, below_drewN (Below.refl _ _) _⟩
        rw [hwq]
        clear hwq
        have hbq1 := hb.trans (hq1.mono hbs)
        have hbsq1 := hbq1.size
        replace he0 := cell_later hq1 he0
        replace he1 := cell_later hq1 he1
        replace hc0 := cell_later hq1 hc0
        replace hc1 := cell_later hq1 hc1
        have hglq1 := hgl.below hq1
        go_wp2_with fail
        go_quiet (fail)
        obtain ⟨wq2, hwq, hq2⟩ : ∃ W, wq1.drewN nq = W ∧ Below wq1.heap.size wq1 W := ⟨_, rfl, below_drewN (Below.refl _ _) _⟩
        rw [hwq]
        clear hwq
        have hbq2 := hbq1.trans (hq2.mono hbsq1)
        have hbsq2 := hbq2.size
        replace he0 := cell_later hq2 he0
        replace he1 := cell_later hq2 he1
        replace hc0 := cell_later hq2 hc0
        replace hc1 := cell_later hq2 hc1
        have hglq2 := hglq1.below hq2
        clear hglq1
        have hglq1 := hglq2
        go_wp2_with (at_builtin; refine wpList_pushO settingE rfl _ _ 38 rfl W0.heap.size 56 i0 _ 24 Try.underlying38 hi HZ.out.1 HZ.out.2 hz2 rfl B z c2 o x rfl (hglq2.alloc _) wq2.heap.size rfl (range_new _ _ _) (by omega) (by decide) (Nat.le_trans hbsq2 (by simp)) ?_; intro BB2 cc2 w2 hgl2 ht2 hn2; have hb2 := Below.touch (hbq2.alloc hbsq2 (.cells #[.string x.fName, .int .i64 x.fValue] 56)) ht2 (fun k hk => (hglq2.lt k hk).1) (Nat.le_trans hbsq2 (by simp)); have hbs2 := hb2.size; clear ht2 hn2)
        have HG2 := Lib.hid hgl2
        clear hgl hglq1 hgl2
        go_wp2
        first | (refine ⟨⟨k + 1, o ++ [x], true, BB2, z + 1, cc2, by omega, by go_num, rfl, rfl, HG2, HN, hb2⟩, ?_⟩; (simp [intOf]; omega)) | (go_roundw; (case rel => first | exact ⟨k + 1, o ++ [x], true, BB2, z + 1, cc2, by omega, by go_num, rfl, rfl, HG2, HN, hb2⟩ | ((try refine ⟨trivial, ?_⟩); (repeat apply Exists.intro); exact ⟨⟨k + 1, o ++ [x], true, BB2, z + 1, cc2, by omega, by go_num, rfl, rfl, HG2, HN, hb2⟩, rfl⟩)); (case measure => (simp [intOf]; omega)))
    · obtain rfl : k = n := by omega
      have HF := Lib.hid (put_end HP.out Hl.out)
      have hsF : w.heap.size ≤ W0.heap.size := hsw
      rcases dn with _ | _
      · have E1 : Hid (setS l e = o ++ [e]) := Lib.hid HF.out
        clear HP HF HGL
        go_wp2_with (at_builtin; refine wpList_pushO settingE rfl _ _ 38 rfl W0.heap.size 56 i0 _ 24 Try.underlying38 hi HZ.out.1 HZ.out.2 hz2 rfl B z c2 o e rfl (hgl.alloc _) wr.heap.size rfl (range_new _ _ _) (by omega) (by decide) (Nat.le_trans hbs (by simp)) ?_; intro BB2 cc2 w2 hgl2 ht2 hn2; have hb2 := Below.touch (hb.alloc hbs (.cells #[.string e.fName, .int .i64 e.fValue] 56)) ht2 (fun k hk => (hgl.lt k hk).1) (Nat.le_trans hbs (by simp)); have hbs2 := hb2.size; clear ht2 hn2)
        have HG3 := Lib.hid (hgl2.mono hsF)
        have hbF := hbw.trans (hb2.mono hsw)
        clear hgl hgl2
        go_ret
        exact ⟨BB2, z + 1, cc2, rfl, by rw [E1.out]; exact HG3.out, hbF⟩
      · have E1 : Hid (setS l e = o) := Lib.hid HF.out
        have HG3 := Lib.hid (hgl.mono hsF)
        have hbF := hbw.trans (hb.mono hsw)
        clear HP HF HGL hgl
        go_wp2
        go_ret
        exact ⟨B, z, c2, rfl, by rw [E1.out]; exact HG3.out, hbF⟩

end Go.Proofs.Ytfabijhilfjkcaa
