/- The roles with a right, with two rights. -/
import Derived.Test.YtepegiklnhoobaaRows
import Derived.Test.YtepegiklnhoobaaWho
namespace Go.Proofs.Ytepegiklnhoobaa
set_option linter.unusedVariables false
set_option linter.unusedSimpArgs false
set_option linter.unusedSectionVars false
open Go.RowKit

theorem hasAll_one {rl : List DRole} {l : List DGrant} {a : Nat} {o : ByteArray} {act : Int} (hgo : ∀ x ∈ l, okG rl x = true) : hasAll (rightsT rl a l) [(o, act)] = (inB act 1 3 && mayB rl l a o act) := by
  rw [Bool.eq_iff_iff, hasAll_true, rights_iff hgo]
  simp
theorem hasAll_two {rl : List DRole} {l : List DGrant} {a : Nat} {o o' : ByteArray} {act act' : Int} (hgo : ∀ x ∈ l, okG rl x = true) : hasAll (rightsT rl a l) [(o, act), (o', act')] = ((inB act 1 3 && mayB rl l a o act) && (inB act' 1 3 && mayB rl l a o' act')) := by
  rw [Bool.eq_iff_iff, hasAll_true, Bool.and_eq_true, rights_iff hgo, rights_iff hgo]
  simp
noncomputable def whoCode (rl : List DRole) (l : List DGrant) (act : Int) : Int := if grantsB rl l then (if inB act 1 3 then 0 else 2) else 1
noncomputable def whoList (rl : List DRole) (l : List DGrant) (o : ByteArray) (act : Int) : List ByteArray := if grantsB rl l && inB act 1 3 then whoN rl l [(o, act)] else []
noncomputable def mixCode (rl : List DRole) (l : List DGrant) : Int := if grantsB rl l then 0 else 1
noncomputable def mixList (rl : List DRole) (l : List DGrant) (x y : DGrant) : List ByteArray := if grantsB rl l then whoN rl l [(x.fObject, x.fAction), (y.fObject, y.fAction)] else []
theorem who_bad {rl : List DRole} {l : List DGrant} {o : ByteArray} {act : Int} (h : grantsB rl l = false) : whoList rl l o act = [] ∧ whoCode rl l act = 1 := by
  unfold whoList whoCode
  rw [h]
  exact ⟨rfl, rfl⟩
theorem who_range {rl : List DRole} {l : List DGrant} {o : ByteArray} {act : Int} (h : grantsB rl l = true) (h2 : inB act 1 3 = false) : whoList rl l o act = [] ∧ whoCode rl l act = 2 := by
  unfold whoList whoCode
  rw [h, h2]
  exact ⟨rfl, rfl⟩
theorem who_ok {rl : List DRole} {l : List DGrant} {o : ByteArray} {act : Int} (h : grantsB rl l = true) (h2 : inB act 1 3 = true) : whoList rl l o act = whoN rl l [(o, act)] ∧ whoCode rl l act = 0 := by
  unfold whoList whoCode
  rw [h, h2]
  exact ⟨rfl, rfl⟩
theorem mix_bad {rl : List DRole} {l : List DGrant} {x y : DGrant} (h : grantsB rl l = false) : mixList rl l x y = [] ∧ mixCode rl l = 1 := by
  unfold mixList mixCode
  rw [h]
  exact ⟨rfl, rfl⟩
theorem mix_ok {rl : List DRole} {l : List DGrant} {x y : DGrant} (h : grantsB rl l = true) : mixList rl l x y = whoN rl l [(x.fObject, x.fAction), (y.fObject, y.fAction)] ∧ mixCode rl l = 0 := by
  unfold mixList mixCode
  rw [h]
  exact ⟨rfl, rfl⟩

set_option maxRecDepth 100000 in
set_option maxHeartbeats 4000000 in
theorem S_WhoMay (A1 : Option Addr) (n1 c1 : Nat) (rl : List DRole) (A : Option Addr) (n c : Nat) (l : List DGrant) (o : ByteArray) (act : Int) (w : World) (hrl : RdRole w A1 n1 rl) (hn1 : n1 ≤ 1048576) (hg1 : ∀ x ∈ rl, x.good) (hs1 : sumRole rl ≤ 1048576)
    (hr : Rd grantE w A n l) (hn : n ≤ 1048576) (hg : ∀ x ∈ l, x.good) (hs : sumGrant l ≤ 1048576) (hz : o.size ≤ 1048576) (ha1 : -9223372036854775808 ≤ act) (ha2 : act ≤ 9223372036854775807) :
    Calls Try.prog 40 #[.slice A1 n1 c1, .slice A n c, .string o, .int .i64 act] w (RetLC strE 9 (whoList rl l o act) (whoCode rl l act) w) := by
  have Hl1 := Lib.hid hrl.len
  have hok := s_l28Ok A1 A n1 c1 n c rl l w hrl hn1 hg1 hs1 hr (by unfold maxLen; omega) hg
  rcases hB : grantsB rl l with _ | _
  · have E := Lib.hid (who_bad (o := o) (act := act) hB)
    rw [hB] at hok
    clear hB
    go_enter Try.func40, Try.ntmps40
    go_wp2_with fail
    refine hok.mono ?_
    rintro e w1 ⟨rfl, hb1⟩
    clear hok
    go_wp2
    go_ret2
    exact RetLC.nil E.out.1 E.out.2 hb1
  · have HB := Lib.hid hB
    rw [hB] at hok
    clear hB
    have hA := fun W => s_l28Action act W
    rcases hin : inB act 1 3 with _ | _
    · have E := Lib.hid (who_range (o := o) HB.out hin)
      rw [hin] at hA
      clear hin
      go_enter Try.func40, Try.ntmps40
      go_wp2_with fail
      refine hok.mono ?_
      rintro e w1 ⟨rfl, hb1⟩
      clear hok
      go_wp2_with fail
      refine (hA _).mono ?_
      rintro e w2 ⟨rfl, rfl⟩
      clear hA
      go_wp2
      go_ret2
      exact RetLC.nil E.out.1 E.out.2 hb1
    · have E := Lib.hid (who_ok (o := o) HB.out hin)
      have HIN := Lib.hid hin
      rw [hin] at hA
      clear hin
      obtain ⟨i0, hi, hz0, hz1, hz2⟩ := info_parts Try.info_str
      go_enter Try.func40, Try.ntmps40
      go_wp2_with fail
      refine hok.mono ?_
      rintro e w1 ⟨rfl, hb1⟩
      clear hok
      go_wp2_with fail
      refine (hA _).mono ?_
      rintro e w2 ⟨rfl, rfl⟩
      clear hA
      have hb2 : Below w.heap.size w (w1.alloc (.cells #[] 9)) := by (repeat (first | exact Below.refl _ _ | assumption | refine Below.drew ?_ | refine Below.alloc ?_ (by first | omega | (simp; done) | (simp; omega) | exact Below.size (by assumption)) _ | refine Below.setCell ?_ (by first | omega | (simp; done) | (simp; omega)) _))
      go_wp2_with fail
      go_loopw [11, 10] (fun i v wr => ∃ (k : Nat) (kn : List ByteArray), k ≤ n1 ∧ i = .int .i64 k ∧ Below w.heap.size w wr ∧ GL strE 9 w.heap.size wr v kn ∧ kn.length ≤ k ∧ Hid (kn = undTo rl (whoM rl l [(o, act)]) k)) (fun i _ _ => n1 - (intOf i).toNat)
      case atStart => exact ⟨0, [], Nat.zero_le _, rfl, hb2, GL.mk0 hb1.size, Nat.le_refl _, Lib.hid rfl⟩
      case round =>
        clear hb2 hb1
        obtain ⟨k, kn, hk, rfl, hb, hgl, hkn, HH⟩ := hrel
        obtain ⟨Ak, ck, rfl⟩ := hgl.form
        by_cases hlt : k < n1
        · have hmay := s_l28May A1 n1 c1 rl A n c l k o act wr (hrl.below hb) hn1 hs1 (hr.below hb) hn (grants_roles HB.out) (sorted_of_grants HB.out).ok
          obtain ⟨b, off, x, A', n', c', rfl, hx, hc, hru⟩ := hrl.get hlt
          have HX := Lib.hid hx
          have HC := Lib.hid hc
          have HW := Lib.hid (whoM_get (l := l) (R := [(o, act)]) (rl := rl) (k := k) (by have := Hl1.out; omega))
          have HO := Lib.hid (hasAll_one (rl := rl) (l := l) (a := k) (o := o) (act := act) (sorted_of_grants HB.out).ok)
          clear hx hc hru
          rcases hh : mayB rl l k o act with _ | _
          · have HK : Hid (kn = undTo rl (whoM rl l [(o, act)]) (k + 1)) := Lib.hid (by rw [HH.out, undTo_out (by rw [HW.out, HO.out, hh]; simp)])
            rw [hh] at hmay
            clear hh
            go_wp2_with fail
            refine hmay.mono ?_
            rintro e w3 ⟨rfl, hb3⟩
            have hgl3 := hgl.below hb3
            have hbF := hb.trans (hb3.mono hb.size)
            clear hmay
            go_wp2
            first | (refine ⟨⟨k + 1, kn, by omega, by go_num, hbF, hgl3, by omega, HK⟩, ?_⟩; (simp [intOf]; omega)) | (go_roundw; (case rel => first | exact ⟨k + 1, kn, by omega, by go_num, hbF, hgl3, by omega, HK⟩ | ((try refine ⟨trivial, ?_⟩); (repeat apply Exists.intro); exact ⟨⟨k + 1, kn, by omega, by go_num, hbF, hgl3, by omega, HK⟩, rfl⟩)); (case measure => (simp [intOf]; omega)))
          · have HK : Hid (kn ++ [x.name] = undTo rl (whoM rl l [(o, act)]) (k + 1)) := Lib.hid (by rw [HH.out, undTo_in HX.out (by rw [HW.out, HO.out, hh, HIN.out]; rfl)])
            rw [hh] at hmay
            clear hh
            go_wp2_with fail
            refine hmay.mono ?_
            rintro e w3 ⟨rfl, hb3⟩
            have hgl3 := hgl.below hb3
            have hbF := hb.trans (hb3.mono hb.size)
            have hc0 := range_below (B := 0) HC.out hbF 0 (.string x.name) rfl
            simp only [Nat.add_zero] at hc0
            have hbs := hbF.size
            clear hmay hb3 hgl hb
            go_wp2_with (at_builtin; refine wpList_push strE rfl _ _ 29 rfl w.heap.size 9 i0 _ 16 Try.underlying29 hi hz0 hz1 hz2 rfl (.slice Ak kn.length ck) kn x.name rfl (hgl3.alloc _) w3.heap.size rfl (range_new _ _ _) (by omega) (by decide) w (by (repeat (first | exact Below.refl _ _ | assumption | refine Below.drew ?_ | refine Below.alloc ?_ (by first | omega | (simp; done) | (simp; omega) | exact Below.size (by assumption)) _ | refine Below.setCell ?_ (by first | omega | (simp; done) | (simp; omega)) _))) (by simp; omega) ?_; intro A7 c7 w7 hgl7 hb7 _)
            first | (refine ⟨⟨k + 1, kn ++ [x.name], by omega, by go_num, hb7, hgl7, by simp; omega, HK⟩, ?_⟩; (simp [intOf]; omega)) | (go_roundw; (case rel => first | exact ⟨k + 1, kn ++ [x.name], by omega, by go_num, hb7, hgl7, by simp; omega, HK⟩ | ((try refine ⟨trivial, ?_⟩); (repeat apply Exists.intro); exact ⟨⟨k + 1, kn ++ [x.name], by omega, by go_num, hb7, hgl7, by simp; omega, HK⟩, rfl⟩)); (case measure => (simp [intOf]; omega)))
        · have E2 : Hid (kn = whoN rl l [(o, act)]) := Lib.hid (by rw [HH.out]; unfold whoN; have := Hl1.out; rw [show k = rl.length by omega])
          go_wp2
          go_ret2
          exact RetLC.mk hgl (by omega) (E.out.1.trans E2.out.symm) E.out.2 hb
set_option maxRecDepth 100000 in
set_option maxHeartbeats 4000000 in
theorem I_WhoMay (A1 : Option Addr) (n1 c1 : Nat) (rl : List DRole) (A : Option Addr) (n c : Nat) (l : List DGrant) (o : ByteArray) (act : Int) (w : World) (hrl : RdRole w A1 n1 rl) (hn1 : n1 ≤ 1048576) (hg1 : ∀ x ∈ rl, x.good) (hs1 : sumRole rl ≤ 1048576)
    (hr : Rd grantE w A n l) (hn : n ≤ 1048576) (hg : ∀ x ∈ l, x.good) (hs : sumGrant l ≤ 1048576) (hz : o.size ≤ 1048576) (ha1 : -9223372036854775808 ≤ act) (ha2 : act ≤ 9223372036854775807) :
    Calls Try.prog 41 #[.slice A1 n1 c1, .slice A n c, .string o, .int .i64 act] w (RetLC strE 9 (whoList rl l o act) (whoCode rl l act) w) := by
  have hok := I_ValidGrants A1 n1 c1 rl A n c l w hrl hn1 hg1 hs1 hr hn hg hs
  rcases hB : grantsB rl l with _ | _
  · have E := Lib.hid (who_bad (o := o) (act := act) hB)
    rw [hB] at hok
    clear hB
    go_enter Try.func41, Try.ntmps41
    go_wp2_with fail
    refine hok.mono ?_
    rintro e w1 ⟨rfl, hb1⟩
    clear hok
    go_wp2
    go_ret2
    exact RetLC.nil E.out.1 E.out.2 hb1
  · have HB := Lib.hid hB
    rw [hB] at hok
    clear hB
    have hA := fun W => i_isAction act W
    rcases hin : inB act 1 3 with _ | _
    · have E := Lib.hid (who_range (o := o) HB.out hin)
      rw [hin] at hA
      clear hin
      go_enter Try.func41, Try.ntmps41
      go_wp2_with fail
      refine hok.mono ?_
      rintro e w1 ⟨rfl, hb1⟩
      clear hok
      go_wp2_with fail
      refine (hA _).mono ?_
      rintro e w2 ⟨rfl, rfl⟩
      clear hA
      go_wp2
      go_ret2
      exact RetLC.nil E.out.1 E.out.2 hb1
    · have E := Lib.hid (who_ok (o := o) HB.out hin)
      rw [hin] at hA
      clear hin
      go_enter Try.func41, Try.ntmps41
      go_wp2_with fail
      refine hok.mono ?_
      rintro e w1 ⟨rfl, hb1⟩
      clear hok
      go_wp2_with fail
      refine (hA _).mono ?_
      rintro e w2 ⟨rfl, rfl⟩
      clear hA
      have hb2 : Below w.heap.size w (w1.alloc (.cells #[.string o, .int .i64 act] 89)) := by (repeat (first | exact Below.refl _ _ | assumption | refine Below.drew ?_ | refine Below.alloc ?_ (by first | omega | (simp; done) | (simp; omega) | exact Below.size (by assumption)) _ | refine Below.setCell ?_ (by first | omega | (simp; done) | (simp; omega)) _))
      have hrR : Rd rightE (w1.alloc (.cells #[.string o, .int .i64 act] 89)) (some ⟨w1.heap.size, 0, none⟩) 1 [(o, act)] := Rd.lit1 rightE rfl rfl rfl
      go_wp2_with fail
      refine (i_rolesWith A1 n1 c1 rl A n c l _ 1 1 [(o, act)] _ (hrl.below hb2) hn1 hs1 (hr.below hb2) hn HB.out hrR (by omega) (fun p hp => by
        rw [List.mem_singleton] at hp
        subst hp
        exact ⟨(show o.size ≤ maxLen by unfold maxLen; omega), wf64_small ⟨ha1, ha2⟩⟩)).mono ?_
      rintro e w3 ⟨A3, n3, c3, hl3, hn3, ho3, rfl, hb3⟩
      have hgl3 : GL strE 9 w.heap.size w3 (.slice A3 n3 c3) (whoN rl l [(o, act)]) := GL.mono (by unfold GL; rw [hl3]; exact ho3) hb2.size
      have hbZ := hb2.trans (hb3.mono hb2.size)
      clear ho3 hb3
      go_wp2
      go_ret2
      exact RetLC.mk hgl3 hn3 E.out.1 E.out.2 hbZ

end Go.Proofs.Ytepegiklnhoobaa
