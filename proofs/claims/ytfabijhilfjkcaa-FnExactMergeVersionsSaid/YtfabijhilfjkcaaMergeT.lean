/- Names, conflicts and the merge of the reference. Printed by a program of mine. -/
import Derived.Test.YtfabijhilfjkcaaRows
import Derived.Test.YtfabijhilfjkcaaMergeS
namespace Go.Proofs.Ytfabijhilfjkcaa
set_option linter.unusedVariables false
set_option linter.unusedSimpArgs false
set_option linter.unusedSectionVars false
open Go.RowKit
set_option maxRecDepth 100000

theorem Try.info_st : (Try.prog.info? 9).map (fun i => (i.zero, i.size, i.bytes)) = some (some (.string ⟨#[]⟩), 1, 16) := by kernel_rfl
def RetNames (ns : List ByteArray) (w : World) (e : Ending) (w' : World) : Prop :=
  ∃ B z c, e = .returned (.slice B z c) ∧ GL strE 9 w.heap.size w' (.slice B z c) ns ∧ Below w.heap.size w w'
theorem eqv_eqD (x y : DSetting) : x.eqv y = eqD x y := Bool.eq_iff_iff.2 (by rw [DSetting.eqv_iff, eqD_iff])
theorem conf_of {l0 l1 l2 : List DSetting} (h : Ok3 l0 l1 l2) (s : ByteArray) : confB l0 l1 l2 s = (!((getS l0 s).eqv (getS l1 s)) && (!((getS l0 s).eqv (getS l2 s)) && !((getS l1 s).eqv (getS l2 s)))) := by
  rw [eqv_eqD, eqv_eqD, eqv_eqD, confB_spec h.h0 h.h1 h.h2]
theorem pick_of {l0 l1 l2 : List DSetting} (s : ByteArray) : pick3 l0 l1 l2 s = if (getS l1 s).eqv (getS l0 s) = true then getS l2 s else getS l1 s := by
  rw [eqv_eqD]; rfl

set_option maxHeartbeats 4000000 in
theorem s_l27Names (A0 A1 A2 : Option Addr) (n0 c0 n1 c1 n2 c2 : Nat) (l0 l1 l2 : List DSetting) (w0 : World) (hr0 : Rd settingE w0 A0 n0 l0) (hr1 : Rd settingE w0 A1 n1 l1) (hr2 : Rd settingE w0 A2 n2 l2) (hok : Ok3 l0 l1 l2) :
    Calls Try.prog 35 #[.slice A0 n0 c0, .slice A1 n1 c1, .slice A2 n2 c2] w0 (RetNames (names3 l0 l1 l2) w0) := by
  have Hl0 := Lib.hid hr0.1
  have Hl1 := Lib.hid hr1.1
  have Hl2 := Lib.hid hr2.1
  have m0 : n0 ≤ 24 := by rw [← hr0.1]; exact hok.n0
  have m1 : n1 ≤ 24 := by rw [← hr1.1]; exact hok.n1
  have m2 : n2 ≤ 24 := by rw [← hr2.1]; exact hok.n2
  have HK := Lib.hid hok; clear hok
  obtain ⟨i0, hi, hz0, hz1, hz2⟩ := info_parts Try.info_st
  have HZ := Lib.hid (And.intro hz0 hz1); clear hz0 hz1
  have HG0 : Hid (GL settingE 56 w0.heap.size (w0.alloc (.cells #[] 56)) (.slice (some ⟨w0.heap.size, 0, none⟩) 0 0) (setAll [] (l0.take 0))) := Lib.hid (GL.mk0 (Nat.le_refl _))
  have hb0 : Below w0.heap.size w0 (w0.alloc (.cells #[] 56)) := (Below.refl _ _).alloc (Nat.le_refl _) _
  go_enter Try.func35, Try.ntmps35
  go_wp2_with fail
  go_loopw [7, 8] (fun t i wr => ∃ (k : Nat) (B : Option Addr) (z q : Nat), k ≤ n0 ∧ i = .int .i64 k ∧ t = .slice B z q ∧ Hid (GL settingE 56 w0.heap.size wr (.slice B z q) (setAll [] (l0.take k))) ∧ Below w0.heap.size w0 wr ∧ z ≤ k) (fun _ i _ => n0 - (intOf i).toNat)
  case atStart => exact ⟨0, _, 0, 0, Nat.zero_le _, rfl, rfl, HG0, hb0, Nat.zero_le _⟩
  case round =>
    clear HG0 hb0
    obtain ⟨k, B, z, q, hk, rfl, rfl, HGL, hb, hzk⟩ := hrel
    have hbs := hb.size
    by_cases hlt : k < n0
    · obtain ⟨b, off, x, rfl, hx, hcs⟩ := hr0.get hlt
      have hcr := range_below (B := 0) hcs hb
      have hc0 := hcr 0 _ rfl
      have hc1 := hcr 1 _ rfl
      simp only [settingE, Nat.add_zero] at hc0 hc1
      have HN : Hid (setAll [] (l0.take (k + 1)) = setS (setAll [] (l0.take k)) x) := Lib.hid (setAll_take hx)
      clear hcr hcs hx
      go_wp2_with fail
      refine (s_l27Set B z q (setAll [] (l0.take k)) x _ HGL.out.rd (by omega) (all_asc _)).mono ?_
      rintro e w1 ⟨B1, z1, q1, rfl, hgl1, hb1⟩
      have hz1' : z1 ≤ z + 1 := by rw [← hgl1.len, ← HGL.out.len]; exact setS_few _ _
      have HG1 : Hid (GL settingE 56 w0.heap.size w1 (.slice B1 z1 q1) (setAll [] (l0.take (k + 1)))) := Lib.hid (by rw [HN.out]; exact hgl1.mono hbs)
      have hbN := hb.trans (hb1.mono hbs)
      clear hgl1 hb1 hc0 hc1
      go_wp2
      first | (refine ⟨⟨k + 1, B1, z1, q1, by omega, by go_num, rfl, HG1, hbN, by omega⟩, ?_⟩; (simp [intOf]; omega)) | (go_roundw; (case rel => first | exact ⟨k + 1, B1, z1, q1, by omega, by go_num, rfl, HG1, hbN, by omega⟩ | ((try refine ⟨trivial, ?_⟩); (repeat apply Exists.intro); exact ⟨⟨k + 1, B1, z1, q1, by omega, by go_num, rfl, HG1, hbN, by omega⟩, rfl⟩)); (case measure => (simp [intOf]; omega)))
    · obtain rfl : k = n0 := by omega
      have HGN : Hid (GL settingE 56 w0.heap.size wr (.slice B z q) (setAll [] (l0 ++ l1.take 0))) := Lib.hid (by have h := HGL.out; rw [List.take_of_length_le (Nat.le_of_eq Hl0.out)] at h; rw [List.take_zero, List.append_nil]; exact h)
      obtain ⟨wo, rfl⟩ : ∃ wo : World, wo = wr := ⟨_, rfl⟩
      go_wp2_with fail
      go_loopw [7, 9] (fun t i wr => ∃ (k : Nat) (B : Option Addr) (z q : Nat), k ≤ n1 ∧ i = .int .i64 k ∧ t = .slice B z q ∧ Hid (GL settingE 56 w0.heap.size wr (.slice B z q) (setAll [] (l0 ++ l1.take k))) ∧ Below w0.heap.size w0 wr ∧ z ≤ (24 + k)) (fun _ i _ => n1 - (intOf i).toNat)
      case atStart => exact ⟨0, B, z, q, Nat.zero_le _, rfl, rfl, HGN, hb, by omega⟩
      case round =>
        clear HGN HGL hb
        obtain ⟨k, B, z, q, hk, rfl, rfl, HGL, hb, hzk⟩ := hrel
        have hbs := hb.size
        by_cases hlt : k < n1
        · obtain ⟨b, off, x, rfl, hx, hcs⟩ := hr1.get hlt
          have hcr := range_below (B := 0) hcs hb
          have hc0 := hcr 0 _ rfl
          have hc1 := hcr 1 _ rfl
          simp only [settingE, Nat.add_zero] at hc0 hc1
          have HN : Hid (setAll [] (l0 ++ l1.take (k + 1)) = setS (setAll [] (l0 ++ l1.take k)) x) := Lib.hid (by rw [setAll_app, setAll_take hx, ← setAll_app])
          clear hcr hcs hx
          go_wp2_with fail
          refine (s_l27Set B z q (setAll [] (l0 ++ l1.take k)) x _ HGL.out.rd (by omega) (all_asc _)).mono ?_
          rintro e w1 ⟨B1, z1, q1, rfl, hgl1, hb1⟩
          have hz1' : z1 ≤ z + 1 := by rw [← hgl1.len, ← HGL.out.len]; exact setS_few _ _
          have HG1 : Hid (GL settingE 56 w0.heap.size w1 (.slice B1 z1 q1) (setAll [] (l0 ++ l1.take (k + 1)))) := Lib.hid (by rw [HN.out]; exact hgl1.mono hbs)
          have hbN := hb.trans (hb1.mono hbs)
          clear hgl1 hb1 hc0 hc1
          go_wp2
          first | (refine ⟨⟨k + 1, B1, z1, q1, by omega, by go_num, rfl, HG1, hbN, by omega⟩, ?_⟩; (simp [intOf]; omega)) | (go_roundw; (case rel => first | exact ⟨k + 1, B1, z1, q1, by omega, by go_num, rfl, HG1, hbN, by omega⟩ | ((try refine ⟨trivial, ?_⟩); (repeat apply Exists.intro); exact ⟨⟨k + 1, B1, z1, q1, by omega, by go_num, rfl, HG1, hbN, by omega⟩, rfl⟩)); (case measure => (simp [intOf]; omega)))
        · obtain rfl : k = n1 := by omega
          have HGN : Hid (GL settingE 56 w0.heap.size wr (.slice B z q) (setAll [] (l0 ++ l1 ++ l2.take 0))) := Lib.hid (by have h := HGL.out; rw [List.take_of_length_le (Nat.le_of_eq Hl1.out)] at h; rw [List.take_zero, List.append_nil]; exact h)
          obtain ⟨wo, rfl⟩ : ∃ wo : World, wo = wr := ⟨_, rfl⟩
          go_wp2_with fail
          go_loopw [7, 10] (fun t i wr => ∃ (k : Nat) (B : Option Addr) (z q : Nat), k ≤ n2 ∧ i = .int .i64 k ∧ t = .slice B z q ∧ Hid (GL settingE 56 w0.heap.size wr (.slice B z q) (setAll [] (l0 ++ l1 ++ l2.take k))) ∧ Below w0.heap.size w0 wr ∧ z ≤ (48 + k)) (fun _ i _ => n2 - (intOf i).toNat)
          case atStart => exact ⟨0, B, z, q, Nat.zero_le _, rfl, rfl, HGN, hb, by omega⟩
          case round =>
            clear HGN HGL hb
            obtain ⟨k, B, z, q, hk, rfl, rfl, HGL, hb, hzk⟩ := hrel
            have hbs := hb.size
            by_cases hlt : k < n2
            · obtain ⟨b, off, x, rfl, hx, hcs⟩ := hr2.get hlt
              have hcr := range_below (B := 0) hcs hb
              have hc0 := hcr 0 _ rfl
              have hc1 := hcr 1 _ rfl
              simp only [settingE, Nat.add_zero] at hc0 hc1
              have HN : Hid (setAll [] (l0 ++ l1 ++ l2.take (k + 1)) = setS (setAll [] (l0 ++ l1 ++ l2.take k)) x) := Lib.hid (by rw [setAll_app, setAll_take hx, ← setAll_app])
              clear hcr hcs hx
              go_wp2_with fail
              refine (s_l27Set B z q (setAll [] (l0 ++ l1 ++ l2.take k)) x _ HGL.out.rd (by omega) (all_asc _)).mono ?_
              rintro e w1 ⟨B1, z1, q1, rfl, hgl1, hb1⟩
              have hz1' : z1 ≤ z + 1 := by rw [← hgl1.len, ← HGL.out.len]; exact setS_few _ _
              have HG1 : Hid (GL settingE 56 w0.heap.size w1 (.slice B1 z1 q1) (setAll [] (l0 ++ l1 ++ l2.take (k + 1)))) := Lib.hid (by rw [HN.out]; exact hgl1.mono hbs)
              have hbN := hb.trans (hb1.mono hbs)
              clear hgl1 hb1 hc0 hc1
              go_wp2
              first | (refine ⟨⟨k + 1, B1, z1, q1, by omega, by go_num, rfl, HG1, hbN, by omega⟩, ?_⟩; (simp [intOf]; omega)) | (go_roundw; (case rel => first | exact ⟨k + 1, B1, z1, q1, by omega, by go_num, rfl, HG1, hbN, by omega⟩ | ((try refine ⟨trivial, ?_⟩); (repeat apply Exists.intro); exact ⟨⟨k + 1, B1, z1, q1, by omega, by go_num, rfl, HG1, hbN, by omega⟩, rfl⟩)); (case measure => (simp [intOf]; omega)))
            · obtain rfl : k = n2 := by omega
              have HGN : Hid (GL settingE 56 w0.heap.size wr (.slice B z q) (setAll [] (l0 ++ l1 ++ l2))) := Lib.hid (by have h := HGL.out; rw [List.take_of_length_le (Nat.le_of_eq Hl2.out)] at h; exact h)
              obtain ⟨wo, rfl⟩ : ∃ wo : World, wo = wr := ⟨_, rfl⟩
              have HL := Lib.hid HGN.out.len
              have HR := Lib.hid HGN.out.rd
              clear HGL HGN
              have HS0 : Hid (GL strE 9 wo.heap.size (wo.alloc (.cells #[] 9)) (.slice (some ⟨wo.heap.size, 0, none⟩) 0 0) ((nmS (setAll [] (l0 ++ l1 ++ l2))).take 0)) := Lib.hid (GL.mk0 (Nat.le_refl _))
              have hs0 : Below wo.heap.size wo (wo.alloc (.cells #[] 9)) := (Below.refl _ _).alloc (Nat.le_refl _) _
              go_wp2_with fail
              go_loopw [11, 12] (fun t i wr => ∃ (k : Nat) (B' : Option Addr) (q' : Nat), k ≤ z ∧ i = .int .i64 k ∧ t = .slice B' k q' ∧ Hid (GL strE 9 wo.heap.size wr (.slice B' k q') ((nmS (setAll [] (l0 ++ l1 ++ l2))).take k)) ∧ Below wo.heap.size wo wr) (fun _ i _ => z - (intOf i).toNat)
              case atStart => exact ⟨0, _, 0, Nat.zero_le _, rfl, rfl, HS0, hs0⟩
              case round =>
                clear HS0 hs0
                obtain ⟨k, B', q', hk, rfl, rfl, HGL, hbr⟩ := hrel
                have hgl := HGL.out
                have hsr := hbr.size
                by_cases hlt : k < z
                · obtain ⟨b, off, x, rfl, hx, hcs⟩ := HR.out.get hlt
                  have hcr := range_below (B := 0) hcs hbr
                  have hc0 := hcr 0 _ rfl
                  simp only [settingE, Nat.add_zero] at hc0
                  have HN : Hid ((nmS (setAll [] (l0 ++ l1 ++ l2))).take (k + 1) = (nmS (setAll [] (l0 ++ l1 ++ l2))).take k ++ [x.fName]) := Lib.hid (take_snoc (nms_get hx))
                  clear hcr hcs hx HGL
                  go_wp2_with (at_builtin; refine wpList_pushO strE rfl _ _ 53 rfl wo.heap.size 9 i0 _ 16 Try.underlying53 hi HZ.out.1 HZ.out.2 hz2 rfl B' k q' ((nmS (setAll [] (l0 ++ l1 ++ l2))).take k) x.fName rfl (hgl.alloc _) wr.heap.size rfl (range_new _ _ _) (by omega) (by decide) (Nat.le_trans hsr (by simp)) ?_; intro BB2 cc2 w2 hgl2 ht2 hn2; have hb2 := Below.touch (hbr.alloc hsr (.cells #[.string x.fName] 9)) ht2 (fun k hk => (hgl.lt k hk).1) (Nat.le_trans hsr (by simp)); have hbs2 := hb2.size; clear ht2 hn2)
                  have HG3 : Hid (GL strE 9 wo.heap.size w2 (.slice BB2 (k + 1) cc2) ((nmS (setAll [] (l0 ++ l1 ++ l2))).take (k + 1))) := Lib.hid (by rw [HN.out]; exact hgl2)
                  clear hgl hgl2 hc0
                  go_wp2
                  first | (refine ⟨⟨k + 1, BB2, cc2, by omega, by go_num, rfl, HG3, hb2⟩, ?_⟩; (simp [intOf]; omega)) | (go_roundw; (case rel => first | exact ⟨k + 1, BB2, cc2, by omega, by go_num, rfl, HG3, hb2⟩ | ((try refine ⟨trivial, ?_⟩); (repeat apply Exists.intro); exact ⟨⟨k + 1, BB2, cc2, by omega, by go_num, rfl, HG3, hb2⟩, rfl⟩)); (case measure => (simp [intOf]; omega)))
                · obtain rfl : k = z := by omega
                  have E1 : Hid ((nmS (setAll [] (l0 ++ l1 ++ l2))).take k = names3 l0 l1 l2) := Lib.hid (by rw [names3_put, List.take_of_length_le (by rw [nms_len, HL.out]; exact Nat.le_refl _)])
                  have hbF := hb.trans (hbr.mono hbs)
                  have HG3 : Hid (GL strE 9 w0.heap.size wr (.slice B' k q') (names3 l0 l1 l2)) := Lib.hid (by rw [← E1.out]; exact hgl.mono hbs)
                  clear hgl HGL
                  go_wp2
                  go_ret
                  exact ⟨B', k, q', rfl, HG3.out, hbF⟩

set_option maxHeartbeats 4000000 in
theorem s_l27Conflicts (A0 A1 A2 : Option Addr) (n0 c0 n1 c1 n2 c2 : Nat) (l0 l1 l2 : List DSetting) (w0 : World) (hr0 : Rd settingE w0 A0 n0 l0) (hr1 : Rd settingE w0 A1 n1 l1) (hr2 : Rd settingE w0 A2 n2 l2) (hok : Ok3 l0 l1 l2) :
    Calls Try.prog 34 #[.slice A0 n0 c0, .slice A1 n1 c1, .slice A2 n2 c2] w0 (RetNames (conf3 l0 l1 l2) w0) := by
  have Hl0 := Lib.hid hr0.1
  have Hl1 := Lib.hid hr1.1
  have Hl2 := Lib.hid hr2.1
  have m0 : n0 ≤ 24 := by rw [← hr0.1]; exact hok.n0
  have m1 : n1 ≤ 24 := by rw [← hr1.1]; exact hok.n1
  have m2 : n2 ≤ 24 := by rw [← hr2.1]; exact hok.n2
  have HK := Lib.hid hok; clear hok
  obtain ⟨i0, hi, hz0, hz1, hz2⟩ := info_parts Try.info_st
  have HZ := Lib.hid (And.intro hz0 hz1); clear hz0 hz1
  go_enter Try.func34, Try.ntmps34
  go_wp2_with fail
  refine (s_l27Names A0 A1 A2 n0 c0 n1 c1 n2 c2 l0 l1 l2 _ hr0 hr1 hr2 HK.out).mono ?_
  rintro e wn ⟨D, z, d, rfl, hgn, hbn⟩
  have HL := Lib.hid hgn.len
  have hz72 : z ≤ 72 := by rw [← hgn.len]; exact names3_few HK.out
  have HRN := Lib.hid hgn.rd
  have hsn := hbn.size
  clear hgn
  have HS0 : Hid (GL strE 9 wn.heap.size (wn.alloc (.cells #[] 9)) (.slice (some ⟨wn.heap.size, 0, none⟩) 0 0) (((names3 l0 l1 l2).take 0).filter (confB l0 l1 l2))) := Lib.hid (GL.mk0 (Nat.le_refl _))
  have hs0 : Below wn.heap.size wn (wn.alloc (.cells #[] 9)) := (Below.refl _ _).alloc (Nat.le_refl _) _
  go_wp2_with fail
  go_loopw [8, 9] (fun t i wr => ∃ (k : Nat) (B : Option Addr) (y q : Nat), k ≤ z ∧ i = .int .i64 k ∧ t = .slice B y q ∧ y ≤ k ∧ Hid (GL strE 9 wn.heap.size wr (.slice B y q) (((names3 l0 l1 l2).take k).filter (confB l0 l1 l2))) ∧ Below wn.heap.size wn wr) (fun _ i _ => z - (intOf i).toNat)
  case atStart => exact ⟨0, _, 0, 0, Nat.zero_le _, rfl, rfl, Nat.le_refl _, HS0, hs0⟩
  case round =>
    clear HS0 hs0
    obtain ⟨k, B, y, q, hk, rfl, rfl, hyk, HGL, hb⟩ := hrel
    have hbs := hb.size
    by_cases hlt : k < z
    · obtain ⟨b, off, s, rfl, hs, hcs⟩ := HRN.out.get hlt
      have hc0 := range_below (B := 0) hcs hb 0 _ rfl
      simp only [strE, Nat.mul_one, Nat.add_zero] at hc0
      have HX := Lib.hid hs
      have HCF := Lib.hid (conf_of HK.out s)
      have HQ0 := Lib.hid (hr0.below (hbn.trans (hb.mono hsn)))
      have HQ1 := Lib.hid (hr1.below (hbn.trans (hb.mono hsn)))
      have HQ2 := Lib.hid (hr2.below (hbn.trans (hb.mono hsn)))
      obtain ⟨x0, hx0⟩ : ∃ x, getS l0 s = x := ⟨_, rfl⟩
      obtain ⟨x1, hx1⟩ : ∃ x, getS l1 s = x := ⟨_, rfl⟩
      obtain ⟨x2, hx2⟩ : ∃ x, getS l2 s = x := ⟨_, rfl⟩
      have hbR := Below.refl wr.heap.size wr
      rw [hx0, hx1, hx2] at HCF
      have HX0 := Lib.hid hx0
      have HX1 := Lib.hid hx1
      have HX2 := Lib.hid hx2
      clear hcs hs hx0 hx1 hx2
      go_wp2_with fail
      refine (s_l27Get A0 n0 c0 l0 s _ (HQ0.out.below hbR) (by omega)).mono ?_
      rintro e w1 ⟨rfl, hg0⟩
      rw [HX0.out]
      have Ru0 := range_new w1 #[.string x0.fName, .int .i64 x0.fValue] 56
      have bau0 : Below w1.heap.size w1 (w1.alloc (.cells #[.string x0.fName, .int .i64 x0.fValue] 56)) := (Below.refl _ _).alloc (Nat.le_refl _) _
      obtain ⟨W1, hWu0⟩ : ∃ W, w1.alloc (.cells #[.string x0.fName, .int .i64 x0.fValue] 56) = W := ⟨_, rfl⟩
      rw [hWu0] at Ru0 bau0
      have u00 := Ru0 0 _ rfl
      have u01 := Ru0 1 _ rfl
      simp only [Nat.zero_add] at u00 u01
      clear Ru0
      have hg0' := hg0.trans (bau0.mono hg0.size)
      have hbR0 := hbR.trans (hg0'.mono hbR.size)
      replace hc0 := cell_later hg0' hc0
      clear hg0 hg0' bau0
      go_wp2_with fail
      try rw [hWu0]
      clear hWu0
      refine (s_l27Get A1 n1 c1 l1 s _ (HQ1.out.below hbR0) (by omega)).mono ?_
      rintro e w2 ⟨rfl, hg1⟩
      rw [HX1.out]
      have Ru1 := range_new w2 #[.string x1.fName, .int .i64 x1.fValue] 56
      have bau1 : Below w2.heap.size w2 (w2.alloc (.cells #[.string x1.fName, .int .i64 x1.fValue] 56)) := (Below.refl _ _).alloc (Nat.le_refl _) _
      obtain ⟨W2, hWu1⟩ : ∃ W, w2.alloc (.cells #[.string x1.fName, .int .i64 x1.fValue] 56) = W := ⟨_, rfl⟩
      rw [hWu1] at Ru1 bau1
      have u10 := Ru1 0 _ rfl
      have u11 := Ru1 1 _ rfl
      simp only [Nat.zero_add] at u10 u11
      clear Ru1
      have hg1' := hg1.trans (bau1.mono hg1.size)
      have hbR1 := hbR0.trans (hg1'.mono hbR0.size)
      replace hc0 := cell_later hg1' hc0
      replace u00 := cell_later hg1' u00
      replace u01 := cell_later hg1' u01
      clear hg1 hg1' bau1
      go_wp2_with fail
      try rw [hWu1]
      clear hWu1
      refine (s_l27Get A2 n2 c2 l2 s _ (HQ2.out.below hbR1) (by omega)).mono ?_
      rintro e w3 ⟨rfl, hg2⟩
      rw [HX2.out]
      have Ru2 := range_new w3 #[.string x2.fName, .int .i64 x2.fValue] 56
      have bau2 : Below w3.heap.size w3 (w3.alloc (.cells #[.string x2.fName, .int .i64 x2.fValue] 56)) := (Below.refl _ _).alloc (Nat.le_refl _) _
      obtain ⟨W3, hWu2⟩ : ∃ W, w3.alloc (.cells #[.string x2.fName, .int .i64 x2.fValue] 56) = W := ⟨_, rfl⟩
      rw [hWu2] at Ru2 bau2
      have u20 := Ru2 0 _ rfl
      have u21 := Ru2 1 _ rfl
      simp only [Nat.zero_add] at u20 u21
      clear Ru2
      have hg2' := hg2.trans (bau2.mono hg2.size)
      have hbR2 := hbR1.trans (hg2'.mono hbR1.size)
      replace hc0 := cell_later hg2' hc0
      replace u00 := cell_later hg2' u00
      replace u01 := cell_later hg2' u01
      replace u10 := cell_later hg2' u10
      replace u11 := cell_later hg2' u11
      clear hg2 hg2' bau2
      have hbE := hb.trans (hbR2.mono hbs)
      have hsE := hbE.size
      have hglE := HGL.out.below hbR2
      have hn01 := fun W => run_neq_Setting x0 x1 W
      have hn02 := fun W => run_neq_Setting x0 x2 W
      have hn12 := fun W => run_neq_Setting x1 x2 W
      have HT := Lib.hid (filt_take (p := confB l0 l1 l2) HX.out)
      clear hbR hbR0 hbR1 hbR2 HGL
      rcases h01 : x0.eqv x1 with _ | _
      · rw [h01] at hn01
        rcases h02 : x0.eqv x2 with _ | _
        · rw [h02] at hn02
          rcases h12 : x1.eqv x2 with _ | _
          · rw [h12] at hn12
            have HC : Hid (confB l0 l1 l2 s = true) := Lib.hid (by rw [HCF.out, h01, h02, h12]; rfl)
            clear h01 h02 h12
            go_wp2_with (at_builtin; refine wpList_pushO strE rfl _ _ 53 rfl wn.heap.size 9 i0 _ 16 Try.underlying53 hi HZ.out.1 HZ.out.2 hz2 rfl B y q (((names3 l0 l1 l2).take k).filter (confB l0 l1 l2)) s rfl (hglE.alloc _) W3.heap.size rfl (range_new _ _ _) (by omega) (by decide) (Nat.le_trans hsE (by simp)) ?_; intro BB7 cc7 w7 hgl7 ht7 hn7; have hb7 := Below.touch (hbE.alloc hsE (.cells #[.string s] 9)) ht7 (fun k hk => (hglE.lt k hk).1) (Nat.le_trans hsE (by simp)); have hbs7 := hb7.size; clear ht7 hn7)
            have HG3 : Hid (GL strE 9 wn.heap.size w7 (.slice BB7 (y + 1) cc7) (((names3 l0 l1 l2).take (k + 1)).filter (confB l0 l1 l2))) := Lib.hid (by rw [HT.out, HC.out]; exact hgl7)
            clear hglE hgl7
            go_wp2
            first | (refine ⟨⟨k + 1, BB7, y + 1, cc7, by omega, by go_num, rfl, by omega, HG3, hb7⟩, ?_⟩; (simp [intOf]; omega)) | (go_roundw; (case rel => first | exact ⟨k + 1, BB7, y + 1, cc7, by omega, by go_num, rfl, by omega, HG3, hb7⟩ | ((try refine ⟨trivial, ?_⟩); (repeat apply Exists.intro); exact ⟨⟨k + 1, BB7, y + 1, cc7, by omega, by go_num, rfl, by omega, HG3, hb7⟩, rfl⟩)); (case measure => (simp [intOf]; omega)))
          · rw [h12] at hn12
            have HC : Hid (confB l0 l1 l2 s = false) := Lib.hid (by rw [HCF.out, h01, h02, h12]; rfl)
            have HG3 : Hid (GL strE 9 wn.heap.size W3 (.slice B y q) (((names3 l0 l1 l2).take (k + 1)).filter (confB l0 l1 l2))) := Lib.hid (by rw [HT.out, HC.out]; exact hglE)
            clear hglE h01 h02 h12
            go_wp2
            try rw [hWu2]
            first | (refine ⟨⟨k + 1, B, y, q, by omega, by go_num, rfl, by omega, HG3, hbE⟩, ?_⟩; (simp [intOf]; omega)) | (go_roundw; (case rel => first | exact ⟨k + 1, B, y, q, by omega, by go_num, rfl, by omega, HG3, hbE⟩ | ((try refine ⟨trivial, ?_⟩); (repeat apply Exists.intro); exact ⟨⟨k + 1, B, y, q, by omega, by go_num, rfl, by omega, HG3, hbE⟩, rfl⟩)); (case measure => (simp [intOf]; omega)))
        · rw [h02] at hn02
          have HC : Hid (confB l0 l1 l2 s = false) := Lib.hid (by rw [HCF.out, h01, h02]; rfl)
          have HG3 : Hid (GL strE 9 wn.heap.size W3 (.slice B y q) (((names3 l0 l1 l2).take (k + 1)).filter (confB l0 l1 l2))) := Lib.hid (by rw [HT.out, HC.out]; exact hglE)
          clear hglE h01 h02
          go_wp2
          try rw [hWu2]
          first | (refine ⟨⟨k + 1, B, y, q, by omega, by go_num, rfl, by omega, HG3, hbE⟩, ?_⟩; (simp [intOf]; omega)) | (go_roundw; (case rel => first | exact ⟨k + 1, B, y, q, by omega, by go_num, rfl, by omega, HG3, hbE⟩ | ((try refine ⟨trivial, ?_⟩); (repeat apply Exists.intro); exact ⟨⟨k + 1, B, y, q, by omega, by go_num, rfl, by omega, HG3, hbE⟩, rfl⟩)); (case measure => (simp [intOf]; omega)))
      · rw [h01] at hn01
        have HC : Hid (confB l0 l1 l2 s = false) := Lib.hid (by rw [HCF.out, h01]; rfl)
        have HG3 : Hid (GL strE 9 wn.heap.size W3 (.slice B y q) (((names3 l0 l1 l2).take (k + 1)).filter (confB l0 l1 l2))) := Lib.hid (by rw [HT.out, HC.out]; exact hglE)
        clear hglE h01
        go_wp2
        try rw [hWu2]
        first | (refine ⟨⟨k + 1, B, y, q, by omega, by go_num, rfl, by omega, HG3, hbE⟩, ?_⟩; (simp [intOf]; omega)) | (go_roundw; (case rel => first | exact ⟨k + 1, B, y, q, by omega, by go_num, rfl, by omega, HG3, hbE⟩ | ((try refine ⟨trivial, ?_⟩); (repeat apply Exists.intro); exact ⟨⟨k + 1, B, y, q, by omega, by go_num, rfl, by omega, HG3, hbE⟩, rfl⟩)); (case measure => (simp [intOf]; omega)))
    · obtain rfl : k = z := by omega
      have E1 : Hid (((names3 l0 l1 l2).take k).filter (confB l0 l1 l2) = conf3 l0 l1 l2) := Lib.hid (by unfold conf3; rw [List.take_of_length_le (Nat.le_of_eq HL.out)])
      have hbF := hbn.trans (hb.mono hsn)
      have HG3 : Hid (GL strE 9 w0.heap.size wr (.slice B y q) (conf3 l0 l1 l2)) := Lib.hid (by rw [← E1.out]; exact HGL.out.mono hsn)
      clear HGL
      go_wp2
      go_ret
      exact ⟨B, y, q, rfl, HG3.out, hbF⟩
end Go.Proofs.Ytfabijhilfjkcaa
