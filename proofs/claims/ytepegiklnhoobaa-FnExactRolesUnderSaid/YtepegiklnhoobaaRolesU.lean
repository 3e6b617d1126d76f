/- The roles under one. -/
import Derived.Test.YtepegiklnhoobaaRows
import Derived.Test.YtepegiklnhoobaaRolesS
import Derived.Test.YtepegiklnhoobaaRolesI
namespace Go.Proofs.Ytepegiklnhoobaa
set_option linter.unusedVariables false
set_option linter.unusedSimpArgs false
set_option linter.unusedSectionVars false
open Go.RowKit

noncomputable def ruList (l : List DRole) (nm : ByteArray) : List ByteArray := if rolesB l = true ∧ 0 ≤ fnd l nm then undN l (fnd l nm).toNat else []
noncomputable def ruCode (l : List DRole) (nm : ByteArray) : Int := if rolesB l then (if fnd l nm < 0 then 3 else 0) else 1
theorem ru_bad {l : List DRole} {nm : ByteArray} (h : rolesB l = false) : ruList l nm = [] ∧ ruCode l nm = 1 := by
  unfold ruList ruCode
  rw [h]
  simp
theorem ru_none {l : List DRole} {nm : ByteArray} (h : rolesB l = true) (hf : fnd l nm = -1) : ruList l nm = [] ∧ ruCode l nm = 3 := by
  unfold ruList ruCode
  rw [h, hf]
  simp
theorem ru_some {l : List DRole} {nm : ByteArray} {a : Nat} (h : rolesB l = true) (hf : fnd l nm = a) : ruList l nm = undN l a ∧ ruCode l nm = 0 := by
  unfold ruList ruCode
  rw [h, hf]
  refine ⟨?_, ?_⟩
  · rw [if_pos ⟨rfl, by omega⟩, Int.toNat_natCast]
  · rw [if_pos rfl, if_neg (by omega)]
theorem roles_ok {l : List DRole} (h : rolesB l = true) : ∀ i, RoleOk nameB l i := (rolesBy_spec h).2.1

set_option maxRecDepth 100000 in
set_option maxHeartbeats 2000000 in
theorem S_RolesUnder (A : Option Addr) (n c : Nat) (l : List DRole) (nm : ByteArray) (w : World) (hr : RdRole w A n l) (hn : n ≤ 1048576) (hg : ∀ x ∈ l, x.good) (hs : sumRole l ≤ 1048576) (hz : nm.size ≤ 1048576) :
    Calls Try.prog 19 #[.slice A n c, .string nm] w (RetLC strE 9 (ruList l nm) (ruCode l nm) w) := by
  have Hl := Lib.hid hr.len
  go_enter Try.func19, Try.ntmps19
  go_wp2_with fail
  refine (s_l28Roles A n c l _ hr hn hg hs).mono ?_
  rintro e w1 ⟨rfl, hb1⟩
  rcases hB : rolesB l with _ | _
  · have HB := Lib.hid (ru_bad (nm := nm) hB); clear hB
    go_wp2
    go_ret2
    exact RetLC.nil HB.out.1 HB.out.2 hb1
  · have HOK := Lib.hid (roles_ok hB)
    have hfnd := s_l28Find A n c l nm w1 (hr.below hb1) hn
    rcases fnd_cases l nm with ⟨hf, _⟩ | ⟨a, _, hf, _, _⟩
    · have HB := Lib.hid (ru_none hB hf)
      rw [hf] at hfnd
      clear hB hf
      go_wp2_with fail
      refine hfnd.mono ?_
      rintro e w2 ⟨rfl, rfl⟩
      clear hfnd
      go_wp2
      go_ret2
      exact RetLC.nil HB.out.1 HB.out.2 hb1
    · have HB := Lib.hid (ru_some hB hf)
      rw [hf] at hfnd
      clear hB hf
      go_wp2_with fail
      refine hfnd.mono ?_
      rintro e w2 ⟨rfl, rfl⟩
      clear hfnd
      go_wp2_with fail
      refine (s_l28Under A n c a l _ (hr.below hb1) hn (roles_under HOK.out) hs).mono ?_
      rintro e w3 ⟨g, rfl, hgb, hb3⟩
      have hbF := hb1.trans (hb3.mono hb1.size)
      have hbS : Below w3.heap.size w3 (w3.alloc (.cells #[] 9)) := (Below.refl _ _).alloc (Nat.le_refl _) _
      obtain ⟨i0, hi, hz0, hz1, hz2⟩ := info_parts Try.info_str
      clear hb3 hb1
      go_wp2_with fail
      go_loopw [9, 8] (fun i v wr => ∃ (k : Nat) (kn : List ByteArray), k ≤ n ∧ i = .int .i64 k ∧ Below w3.heap.size w3 wr ∧ GL strE 9 w3.heap.size wr v kn ∧ kn.length ≤ k ∧ Hid (kn = undTo l (UndB l a) k)) (fun i _ _ => n - (intOf i).toNat)
      case atStart => exact ⟨0, [], Nat.zero_le _, rfl, hbS, GL.mk0 (Nat.le_refl _), Nat.le_refl _, Lib.hid rfl⟩
      case round =>
        clear hbS
        obtain ⟨k, kn, hk', rfl, hb, hgl, hkn, HH⟩ := hrel
        obtain ⟨Ak, ck, rfl⟩ := hgl.form
        by_cases hlt : k < n
        · obtain ⟨b, off, x, A', n', c', rfl, hx, hc, hru⟩ := (hr.below hbF).get hlt
          have hc0 := range_below (B := 0) hc hb 0 (.string x.name) rfl
          simp only [Nat.add_zero] at hc0
          have HX := Lib.hid hx
          clear hc hx hru
          obtain ⟨bv, hbv⟩ : ∃ bv, (UndB l a)[k]? = some bv := ⟨_, List.getElem?_eq_getElem (by rw [UndB_len]; have := Hl.out; omega)⟩
          have hcb := (hgb.below hb).get1 (E := boolE) rfl (u := .bool bv) rfl hbv
          cases bv with
          | false =>
            have HK : Hid (kn = undTo l (UndB l a) (k + 1)) := Lib.hid (by rw [HH.out, undTo_out hbv])
            clear hbv
            go_wp2
            first | (refine ⟨⟨k + 1, kn, by omega, by go_num, hb, hgl, by omega, HK⟩, ?_⟩; (simp [intOf]; omega)) | (go_roundw; (case rel => first | exact ⟨k + 1, kn, by omega, by go_num, hb, hgl, by omega, HK⟩ | ((try refine ⟨trivial, ?_⟩); (repeat apply Exists.intro); exact ⟨⟨k + 1, kn, by omega, by go_num, hb, hgl, by omega, HK⟩, rfl⟩)); (case measure => (simp [intOf]; omega)))
          | true =>
            have HK : Hid (kn ++ [x.name] = undTo l (UndB l a) (k + 1)) := Lib.hid (by rw [HH.out, undTo_in HX.out hbv])
            have hbs := hb.size
            clear hbv
            go_wp2_with (at_builtin; refine wpList_push strE rfl _ _ 29 rfl w3.heap.size 9 i0 _ 16 Try.underlying29 hi hz0 hz1 hz2 rfl (.slice Ak kn.length ck) kn x.name rfl (hgl.alloc _) wr.heap.size rfl (range_new _ _ _) (by omega) (by decide) w3 (by (repeat (first | exact Below.refl _ _ | assumption | refine Below.drew ?_ | refine Below.alloc ?_ (by first | omega | (simp; done) | (simp; omega) | exact Below.size (by assumption)) _ | refine Below.setCell ?_ (by first | omega | (simp; done) | (simp; omega)) _))) (by simp; omega) ?_; intro A' c' w2 hgl' hb' _)
            first | (refine ⟨⟨k + 1, kn ++ [x.name], by omega, by go_num, hb', hgl', by simp; omega, HK⟩, ?_⟩; (simp [intOf]; omega)) | (go_roundw; (case rel => first | exact ⟨k + 1, kn ++ [x.name], by omega, by go_num, hb', hgl', by simp; omega, HK⟩ | ((try refine ⟨trivial, ?_⟩); (repeat apply Exists.intro); exact ⟨⟨k + 1, kn ++ [x.name], by omega, by go_num, hb', hgl', by simp; omega, HK⟩, rfl⟩)); (case measure => (simp [intOf]; omega)))
        · have E : Hid (kn = undN l a) := Lib.hid (by rw [HH.out]; unfold undN; have := Hl.out; rw [show k = l.length by omega])
          have hbZ := hbF.trans (hb.mono hbF.size)
          have hgz := hgl.mono hbF.size
          go_wp2
          go_ret2
          exact RetLC.mk hgz (by omega) (HB.out.1.trans E.out.symm) HB.out.2 hbZ
set_option maxHeartbeats 1000000 in
theorem I_RolesUnder (A : Option Addr) (n c : Nat) (l : List DRole) (nm : ByteArray) (w : World) (hr : RdRole w A n l) (hn : n ≤ 1048576) (hg : ∀ x ∈ l, x.good) (hs : sumRole l ≤ 1048576) (hz : nm.size ≤ 1048576) :
    Calls Try.prog 20 #[.slice A n c, .string nm] w (RetLC strE 9 (ruList l nm) (ruCode l nm) w) := by
  have Hl := Lib.hid hr.len
  go_enter Try.func20, Try.ntmps20
  go_wp2_with fail
  refine (I_ValidRoles A n c l _ hr hn hg hs).mono ?_
  rintro e w1 ⟨rfl, hb1⟩
  rcases hB : rolesB l with _ | _
  · have HB := Lib.hid (ru_bad (nm := nm) hB); clear hB
    go_wp2
    go_ret2
    exact RetLC.nil HB.out.1 HB.out.2 hb1
  · have HOK := Lib.hid (roles_ok hB)
    have hfnd := i_roleOf A n c l nm w1 (hr.below hb1) hn
    rcases fnd_cases l nm with ⟨hf, _⟩ | ⟨a, _, hf, _, _⟩
    · have HB := Lib.hid (ru_none hB hf)
      rw [hf] at hfnd
      clear hB hf
      go_wp2_with fail
      refine hfnd.mono ?_
      rintro e w2 ⟨rfl, hb2⟩
      clear hfnd
      go_wp2
      go_ret2
      exact RetLC.nil HB.out.1 HB.out.2 (hb1.trans (hb2.mono hb1.size))
    · have HB := Lib.hid (ru_some hB hf)
      have HF := Lib.hid hf
      have HL : Hid ((undN l a).length ≤ n) := Lib.hid (by have := undTo_len l (UndB l a) l.length; have := Hl.out; unfold undN; omega)
      rw [hf] at hfnd
      clear hB hf
      go_wp2_with fail
      refine hfnd.mono ?_
      rintro e w2 ⟨rfl, hb2⟩
      have hb3 := hb1.trans (hb2.mono hb1.size)
      clear hfnd
      go_wp2_with fail
      refine (i_under A n c a l nm _ (hr.below hb3) hn HOK.out hs HF.out).mono ?_
      rintro e w4 ⟨g, m, c', rfl, hgl, hb4⟩
      have hbF := hb3.trans (hb4.mono hb3.size)
      have hgz := hgl.mono hb3.size
      have hm := hgl.len
      go_wp2
      go_ret2
      exact RetLC.mk hgz (by have := HL.out; omega) HB.out.1 HB.out.2 hbF
end Go.Proofs.Ytepegiklnhoobaa
