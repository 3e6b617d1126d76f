/- The roles with two rights. -/
import Derived.Test.YtepegiklnhoobaaRows
import Derived.Test.YtepegiklnhoobaaWhoM
namespace Go.Proofs.Ytepegiklnhoobaa
set_option linter.unusedVariables false
set_option linter.unusedSimpArgs false
set_option linter.unusedSectionVars false
open Go.RowKit

set_option maxRecDepth 100000 in
set_option maxHeartbeats 1500000 in
theorem I_MixedDuties (A1 : Option Addr) (n1 c1 : Nat) (rl : List DRole) (A : Option Addr) (n c : Nat) (l : List DGrant) (x y : DGrant) (w : World) (hrl : RdRole w A1 n1 rl) (hn1 : n1 ≤ 1048576) (hg1 : ∀ x ∈ rl, x.good) (hs1 : sumRole rl ≤ 1048576)
    (hr : Rd grantE w A n l) (hn : n ≤ 1048576) (hg : ∀ x ∈ l, x.good) (hs : sumGrant l ≤ 1048576) (hgx : x.good) (hzx : x.sz ≤ 1048576) (hgy : y.good) (hzy : y.sz ≤ 1048576) :
    Calls Try.prog 39 #[.slice A1 n1 c1, .slice A n c, .agg #[.string x.fRole, .string x.fObject, .int .i64 x.fAction], .agg #[.string y.fRole, .string y.fObject, .int .i64 y.fAction]] w (RetLC strE 9 (mixList rl l x y) (mixCode rl l) w) := by
  have hcx := World.rangeAt_alloc (range_new w #[.string x.fRole, .string x.fObject, .int .i64 x.fAction] 50) (.cells #[.string y.fRole, .string y.fObject, .int .i64 y.fAction] 50)
  have hcy := range_new (w.alloc (.cells #[.string x.fRole, .string x.fObject, .int .i64 x.fAction] 50)) #[.string y.fRole, .string y.fObject, .int .i64 y.fAction] 50
  rw [show (w.alloc (.cells #[.string x.fRole, .string x.fObject, .int .i64 x.fAction] 50)).heap.size = w.heap.size + 1 by simp] at hcy
  have hb0 : Below w.heap.size w ((w.alloc (.cells #[.string x.fRole, .string x.fObject, .int .i64 x.fAction] 50)).alloc (.cells #[.string y.fRole, .string y.fObject, .int .i64 y.fAction] 50)) := by (repeat (first | exact Below.refl _ _ | assumption | refine Below.drew ?_ | refine Below.alloc ?_ (by first | omega | (simp; done) | (simp; omega) | exact Below.size (by assumption)) _ | refine Below.setCell ?_ (by first | omega | (simp; done) | (simp; omega)) _))
  obtain ⟨W0, hW0⟩ : ∃ W0, (w.alloc (.cells #[.string x.fRole, .string x.fObject, .int .i64 x.fAction] 50)).alloc (.cells #[.string y.fRole, .string y.fObject, .int .i64 y.fAction] 50) = W0 := ⟨_, rfl⟩
  rw [hW0] at hcx hcy hb0
  have hok := I_ValidGrants A1 n1 c1 rl A n c l W0 (hrl.below hb0) hn1 hg1 hs1 (hr.below hb0) hn hg hs
  rcases hB : grantsB rl l with _ | _
  · have E := Lib.hid (mix_bad (x := x) (y := y) hB)
    rw [hB] at hok
    clear hB
    go_enter Try.func39, Try.ntmps39
    go_wp2_with fail
    try rw [hW0]
    refine hok.mono ?_
    rintro e w1 ⟨rfl, hb1⟩
    have hbF := hb0.trans (hb1.mono hb0.size)
    clear hok
    go_wp2
    go_ret2
    exact RetLC.nil E.out.1 E.out.2 hbF
  · have HB := Lib.hid hB
    have E := Lib.hid (mix_ok (x := x) (y := y) hB)
    rw [hB] at hok
    clear hB
    go_enter Try.func39, Try.ntmps39
    go_wp2_with fail
    try rw [hW0]
    clear hW0
    refine hok.mono ?_
    rintro e w1 ⟨rfl, hb1⟩
    have hbF := hb0.trans (hb1.mono hb0.size)
    have hcx1 := range_below (B := 0) hcx hb1
    have hcy1 := range_below (B := 0) hcy hb1
    clear hok hcx hcy hb1 hb0
    have hx1 := hcx1 1 (.string x.fObject) rfl
    have hx2 := hcx1 2 (.int .i64 x.fAction) rfl
    have hy1 := hcy1 1 (.string y.fObject) rfl
    have hy2 := hcy1 2 (.int .i64 y.fAction) rfl
    simp only [Nat.zero_add] at hx1 hx2 hy1 hy2
    clear hcx1 hcy1
    have hb2 : Below w.heap.size w (w1.alloc (.cells #[.string x.fObject, .int .i64 x.fAction, .string y.fObject, .int .i64 y.fAction] 89)) := hbF.alloc hbF.size _
    have hrR : Rd rightE (w1.alloc (.cells #[.string x.fObject, .int .i64 x.fAction, .string y.fObject, .int .i64 y.fAction] 89)) (some ⟨w1.heap.size, 0, none⟩) 2 [(x.fObject, x.fAction), (y.fObject, y.fAction)] := Rd.lit1 rightE rfl rfl rfl
    go_wp2_with fail
    refine (i_rolesWith A1 n1 c1 rl A n c l _ 2 2 [(x.fObject, x.fAction), (y.fObject, y.fAction)] _ (hrl.below hb2) hn1 hs1 (hr.below hb2) hn HB.out hrR (by omega) (fun p hp => by
      simp only [List.mem_cons, List.mem_nil_iff, or_false] at hp
      rcases hp with rfl | rfl
      · exact ⟨hgx.2.1, wf64_small hgx.2.2⟩
      · exact ⟨hgy.2.1, wf64_small hgy.2.2⟩)).mono ?_
    rintro e w3 ⟨A3, n3, c3, hl3, hn3, ho3, rfl, hb3⟩
    have hgl3 : GL strE 9 w.heap.size w3 (.slice A3 n3 c3) (whoN rl l [(x.fObject, x.fAction), (y.fObject, y.fAction)]) := GL.mono (by unfold GL; rw [hl3]; exact ho3) hb2.size
    have hbZ := hb2.trans (hb3.mono hb2.size)
    clear ho3 hb3
    go_wp2
    go_ret2
    exact RetLC.mk hgl3 hn3 E.out.1 E.out.2 hbZ

set_option maxRecDepth 100000 in
set_option maxHeartbeats 1500000 in
theorem S_MixedDuties (A1 : Option Addr) (n1 c1 : Nat) (rl : List DRole) (A : Option Addr) (n c : Nat) (l : List DGrant) (x y : DGrant) (w : World) (hrl : RdRole w A1 n1 rl) (hn1 : n1 ≤ 1048576) (hg1 : ∀ x ∈ rl, x.good) (hs1 : sumRole rl ≤ 1048576)
    (hr : Rd grantE w A n l) (hn : n ≤ 1048576) (hg : ∀ x ∈ l, x.good) (hs : sumGrant l ≤ 1048576) (hgx : x.good) (hzx : x.sz ≤ 1048576) (hgy : y.good) (hzy : y.sz ≤ 1048576) :
    Calls Try.prog 38 #[.slice A1 n1 c1, .slice A n c, .agg #[.string x.fRole, .string x.fObject, .int .i64 x.fAction], .agg #[.string y.fRole, .string y.fObject, .int .i64 y.fAction]] w (RetLC strE 9 (mixList rl l x y) (mixCode rl l) w) := by
  have Hl1 := Lib.hid hrl.len
  have hcx := World.rangeAt_alloc (range_new w #[.string x.fRole, .string x.fObject, .int .i64 x.fAction] 50) (.cells #[.string y.fRole, .string y.fObject, .int .i64 y.fAction] 50)
  have hcy := range_new (w.alloc (.cells #[.string x.fRole, .string x.fObject, .int .i64 x.fAction] 50)) #[.string y.fRole, .string y.fObject, .int .i64 y.fAction] 50
  rw [show (w.alloc (.cells #[.string x.fRole, .string x.fObject, .int .i64 x.fAction] 50)).heap.size = w.heap.size + 1 by simp] at hcy
  have hb0 : Below w.heap.size w ((w.alloc (.cells #[.string x.fRole, .string x.fObject, .int .i64 x.fAction] 50)).alloc (.cells #[.string y.fRole, .string y.fObject, .int .i64 y.fAction] 50)) := by (repeat (first | exact Below.refl _ _ | assumption | refine Below.drew ?_ | refine Below.alloc ?_ (by first | omega | (simp; done) | (simp; omega) | exact Below.size (by assumption)) _ | refine Below.setCell ?_ (by first | omega | (simp; done) | (simp; omega)) _))
  obtain ⟨W0, hW0⟩ : ∃ W0, (w.alloc (.cells #[.string x.fRole, .string x.fObject, .int .i64 x.fAction] 50)).alloc (.cells #[.string y.fRole, .string y.fObject, .int .i64 y.fAction] 50) = W0 := ⟨_, rfl⟩
  rw [hW0] at hcx hcy hb0
  have hok := s_l28Ok A1 A n1 c1 n c rl l W0 (hrl.below hb0) hn1 hg1 hs1 (hr.below hb0) (by unfold maxLen; omega) hg
  rcases hB : grantsB rl l with _ | _
  · have E := Lib.hid (mix_bad (x := x) (y := y) hB)
    rw [hB] at hok
    clear hB
    go_enter Try.func38, Try.ntmps38
    go_wp2_with fail
    try rw [hW0]
    refine hok.mono ?_
    rintro e w1 ⟨rfl, hb1⟩
    have hbF := hb0.trans (hb1.mono hb0.size)
    clear hok
    go_wp2
    go_ret2
    exact RetLC.nil E.out.1 E.out.2 hbF
  · have HB := Lib.hid hB
    have E := Lib.hid (mix_ok (x := x) (y := y) hB)
    rw [hB] at hok
    clear hB
    go_enter Try.func38, Try.ntmps38
    go_wp2_with fail
    try rw [hW0]
    clear hW0
    refine hok.mono ?_
    rintro e w1 ⟨rfl, hb1⟩
    have hbF := hb0.trans (hb1.mono hb0.size)
    have hcx1 := range_below (B := 0) hcx hb1
    have hcy1 := range_below (B := 0) hcy hb1
    clear hok hcx hcy hb1 hb0
    obtain ⟨i0, hi, hz0, hz1, hz2⟩ := info_parts Try.info_str
    have hbA : Below w1.heap.size w1 (w1.alloc (.cells #[] 9)) := (Below.refl _ _).alloc (Nat.le_refl _) _
    have hb2 : Below w.heap.size w (w1.alloc (.cells #[] 9)) := hbF.alloc hbF.size _
    have hsz1 := hbF.size
    go_wp2_with fail
    go_loopw [11, 10] (fun i v wr => ∃ (k : Nat) (kn : List ByteArray), k ≤ n1 ∧ i = .int .i64 k ∧ Below w1.heap.size w1 wr ∧ GL strE 9 w1.heap.size wr v kn ∧ kn.length ≤ k ∧ Hid (kn = undTo rl (whoM rl l [(x.fObject, x.fAction), (y.fObject, y.fAction)]) k)) (fun i _ _ => n1 - (intOf i).toNat)
    case atStart => exact ⟨0, [], Nat.zero_le _, rfl, hbA, GL.mk0 (Nat.le_refl _), Nat.le_refl _, Lib.hid rfl⟩
    case round =>
      clear hb2 hbA
      obtain ⟨k, kn, hk, rfl, hb, hgl, hkn, HH⟩ := hrel
      obtain ⟨Ak, ck, rfl⟩ := hgl.form
      have hbw := hbF.trans (hb.mono hbF.size)
      by_cases hlt : k < n1
      · have hcx2 := range_below (B := 0) hcx1 hb
        have hcy2 := range_below (B := 0) hcy1 hb
        have hx1 := hcx2 1 (.string x.fObject) rfl
        have hx2 := hcx2 2 (.int .i64 x.fAction) rfl
        have hy2 := hcy2 2 (.int .i64 y.fAction) rfl
        simp only [Nat.zero_add] at hx1 hx2 hy2
        have hA1 := s_l28Action x.fAction wr
        have hA2 := s_l28Action y.fAction wr
        have hM1 := s_l28May A1 n1 c1 rl A n c l k x.fObject x.fAction wr (hrl.below hbw) hn1 hs1 (hr.below hbw) hn (grants_roles HB.out) (sorted_of_grants HB.out).ok
        have HM2 := fun W (h : Below w.heap.size w W) => s_l28May A1 n1 c1 rl A n c l k y.fObject y.fAction W (hrl.below h) hn1 hs1 (hr.below h) hn (grants_roles HB.out) (sorted_of_grants HB.out).ok
        obtain ⟨b, off, z, A', n', c', rfl, hz, hc, hru⟩ := hrl.get hlt
        have HZ := Lib.hid hz
        have HC := Lib.hid hc
        have HCY := Lib.hid hcy1
        have HW := Lib.hid (whoM_get (l := l) (R := [(x.fObject, x.fAction), (y.fObject, y.fAction)]) (rl := rl) (k := k) (by have := Hl1.out; omega))
        have HO := Lib.hid (hasAll_two (rl := rl) (l := l) (a := k) (o := x.fObject) (act := x.fAction) (o' := y.fObject) (act' := y.fAction) (sorted_of_grants HB.out).ok)
        have HM2' := Lib.hid HM2
        clear hz hc hru HM2 hcx2 hcy2
        rcases h1 : inB x.fAction 1 3 with _ | _
        · have HK : Hid (kn = undTo rl (whoM rl l [(x.fObject, x.fAction), (y.fObject, y.fAction)]) (k + 1)) := Lib.hid (by rw [HH.out, undTo_out (by rw [HW.out, HO.out, h1]; simp)])
          rw [h1] at hA1
          clear h1 hM1 hA2
          go_wp2_with fail
          refine hA1.mono ?_
          rintro e w3 ⟨rfl, rfl⟩
          clear hA1
          go_wp2
          first | (refine ⟨⟨k + 1, kn, by omega, by go_num, hb, hgl, by omega, HK⟩, ?_⟩; (simp [intOf]; omega)) | (go_roundw; (case rel => first | exact ⟨k + 1, kn, by omega, by go_num, hb, hgl, by omega, HK⟩ | ((try refine ⟨trivial, ?_⟩); (repeat apply Exists.intro); exact ⟨⟨k + 1, kn, by omega, by go_num, hb, hgl, by omega, HK⟩, rfl⟩)); (case measure => (simp [intOf]; omega)))
        · have H1 := Lib.hid h1
          rw [h1] at hA1
          clear h1
          rcases h2 : inB y.fAction 1 3 with _ | _
          · have HK : Hid (kn = undTo rl (whoM rl l [(x.fObject, x.fAction), (y.fObject, y.fAction)]) (k + 1)) := Lib.hid (by rw [HH.out, undTo_out (by rw [HW.out, HO.out, h2]; simp)])
            rw [h2] at hA2
            clear h2 hM1
            go_wp2_with fail
            refine hA1.mono ?_
            rintro e w3 ⟨rfl, rfl⟩
            clear hA1
            go_wp2_with fail
            refine hA2.mono ?_
            rintro e w3 ⟨rfl, rfl⟩
            clear hA2
            go_wp2
            first | (refine ⟨⟨k + 1, kn, by omega, by go_num, hb, hgl, by omega, HK⟩, ?_⟩; (simp [intOf]; omega)) | (go_roundw; (case rel => first | exact ⟨k + 1, kn, by omega, by go_num, hb, hgl, by omega, HK⟩ | ((try refine ⟨trivial, ?_⟩); (repeat apply Exists.intro); exact ⟨⟨k + 1, kn, by omega, by go_num, hb, hgl, by omega, HK⟩, rfl⟩)); (case measure => (simp [intOf]; omega)))
          · have H2 := Lib.hid h2
            rw [h2] at hA2
            clear h2
            rcases h3 : mayB rl l k x.fObject x.fAction with _ | _
            · have HK : Hid (kn = undTo rl (whoM rl l [(x.fObject, x.fAction), (y.fObject, y.fAction)]) (k + 1)) := Lib.hid (by rw [HH.out, undTo_out (by rw [HW.out, HO.out, h3]; simp)])
              rw [h3] at hM1
              clear h3
              go_wp2_with fail
              refine hA1.mono ?_
              rintro e w3 ⟨rfl, rfl⟩
              clear hA1
              go_wp2_with fail
              refine hA2.mono ?_
              rintro e w3 ⟨rfl, rfl⟩
              clear hA2
              go_wp2_with fail
              refine hM1.mono ?_
              rintro e w3 ⟨rfl, hb3⟩
              have hgl3 := hgl.below hb3
              have hb4 := hb.trans (hb3.mono hb.size)
              clear hM1 hb3
              go_wp2
              first | (refine ⟨⟨k + 1, kn, by omega, by go_num, hb4, hgl3, by omega, HK⟩, ?_⟩; (simp [intOf]; omega)) | (go_roundw; (case rel => first | exact ⟨k + 1, kn, by omega, by go_num, hb4, hgl3, by omega, HK⟩ | ((try refine ⟨trivial, ?_⟩); (repeat apply Exists.intro); exact ⟨⟨k + 1, kn, by omega, by go_num, hb4, hgl3, by omega, HK⟩, rfl⟩)); (case measure => (simp [intOf]; omega)))
            · have H3 := Lib.hid h3
              rw [h3] at hM1
              clear h3
              rcases h4 : mayB rl l k y.fObject y.fAction with _ | _
              · have HK : Hid (kn = undTo rl (whoM rl l [(x.fObject, x.fAction), (y.fObject, y.fAction)]) (k + 1)) := Lib.hid (by rw [HH.out, undTo_out (by rw [HW.out, HO.out, h4]; simp)])
                clear HW HO
                go_wp2_with fail
                refine hA1.mono ?_
                rintro e w3 ⟨rfl, rfl⟩
                clear hA1
                go_wp2_with fail
                refine hA2.mono ?_
                rintro e w3 ⟨rfl, rfl⟩
                clear hA2
                go_wp2_with fail
                refine hM1.mono ?_
                rintro e w3 ⟨rfl, hb3⟩
                have hgl3 := hgl.below hb3
                have hb4 := hb.trans (hb3.mono hb.size)
                have hcy3 := range_below (B := 0) HCY.out hb4
                have hy1 := hcy3 1 (.string y.fObject) rfl
                have hy3 := hcy3 2 (.int .i64 y.fAction) rfl
                simp only [Nat.zero_add] at hy1 hy3
                have hM2 := HM2'.out w3 (hbF.trans (hb4.mono hbF.size))
                rw [h4] at hM2
                clear hM1 hb3 hcy3 h4 hx1 hx2 hy2
                go_wp2_with fail
                refine hM2.mono ?_
                rintro e w5 ⟨rfl, hb5⟩
                have hgl5 := hgl3.below hb5
                have hb6 := hb4.trans (hb5.mono hb4.size)
                clear hM2 hb5 hy1 hy3
                go_wp2
                first | (refine ⟨⟨k + 1, kn, by omega, by go_num, hb6, hgl5, by omega, HK⟩, ?_⟩; (simp [intOf]; omega)) | (go_roundw; (case rel => first | exact ⟨k + 1, kn, by omega, by go_num, hb6, hgl5, by omega, HK⟩ | ((try refine ⟨trivial, ?_⟩); (repeat apply Exists.intro); exact ⟨⟨k + 1, kn, by omega, by go_num, hb6, hgl5, by omega, HK⟩, rfl⟩)); (case measure => (simp [intOf]; omega)))
              · have HK : Hid (kn ++ [z.name] = undTo rl (whoM rl l [(x.fObject, x.fAction), (y.fObject, y.fAction)]) (k + 1)) := Lib.hid (by rw [HH.out, undTo_in HZ.out (by rw [HW.out, HO.out, H1.out, H2.out, H3.out, h4]; rfl)])
                clear HW HO
                go_wp2_with fail
                refine hA1.mono ?_
                rintro e w3 ⟨rfl, rfl⟩
                clear hA1
                go_wp2_with fail
                refine hA2.mono ?_
                rintro e w3 ⟨rfl, rfl⟩
                clear hA2
                go_wp2_with fail
                refine hM1.mono ?_
                rintro e w3 ⟨rfl, hb3⟩
                have hgl3 := hgl.below hb3
                have hb4 := hb.trans (hb3.mono hb.size)
                have hcy3 := range_below (B := 0) HCY.out hb4
                have hy1 := hcy3 1 (.string y.fObject) rfl
                have hy3 := hcy3 2 (.int .i64 y.fAction) rfl
                simp only [Nat.zero_add] at hy1 hy3
                have hM2 := HM2'.out w3 (hbF.trans (hb4.mono hbF.size))
                rw [h4] at hM2
                clear hM1 hb3 hcy3 h4 hx1 hx2 hy2
                go_wp2_with fail
                refine hM2.mono ?_
                rintro e w5 ⟨rfl, hb5⟩
                have hgl5 := hgl3.below hb5
                have hb6 := hb4.trans (hb5.mono hb4.size)
                clear hM2 hb5 hy1 hy3
                have hbX := hbF.trans (hb6.mono hbF.size)
                have hc0 := range_below (B := 0) HC.out hbX 0 (.string z.name) rfl
                simp only [Nat.add_zero] at hc0
                have hbs := hb6.size
                go_wp2_with (at_builtin; refine wpList_push strE rfl _ _ 29 rfl w1.heap.size 9 i0 _ 16 Try.underlying29 hi hz0 hz1 hz2 rfl (.slice Ak kn.length ck) kn z.name rfl (hgl5.alloc _) w5.heap.size rfl (range_new _ _ _) (by omega) (by decide) w1 (by (repeat (first | exact Below.refl _ _ | assumption | refine Below.drew ?_ | refine Below.alloc ?_ (by first | omega | (simp; done) | (simp; omega) | exact Below.size (by assumption)) _ | refine Below.setCell ?_ (by first | omega | (simp; done) | (simp; omega)) _))) (by simp; omega) ?_; intro A7 c7 w7 hgl7 hb7 _)
                first | (refine ⟨⟨k + 1, kn ++ [z.name], by omega, by go_num, hb7, hgl7, by simp; omega, HK⟩, ?_⟩; (simp [intOf]; omega)) | (go_roundw; (case rel => first | exact ⟨k + 1, kn ++ [z.name], by omega, by go_num, hb7, hgl7, by simp; omega, HK⟩ | ((try refine ⟨trivial, ?_⟩); (repeat apply Exists.intro); exact ⟨⟨k + 1, kn ++ [z.name], by omega, by go_num, hb7, hgl7, by simp; omega, HK⟩, rfl⟩)); (case measure => (simp [intOf]; omega)))
      · have E2 : Hid (kn = whoN rl l [(x.fObject, x.fAction), (y.fObject, y.fAction)]) := Lib.hid (by rw [HH.out]; unfold whoN; have := Hl1.out; rw [show k = rl.length by omega])
        have hgz := hgl.mono hsz1
        go_wp2
        go_ret2
        exact RetLC.mk hgz (by omega) (E.out.1.trans E2.out.symm) E.out.2 hbw
end Go.Proofs.Ytepegiklnhoobaa
