/- Whether a role is allowed to. -/
import Derived.Test.YtepegiklnhoobaaRows
import Derived.Test.YtepegiklnhoobaaMayS
import Derived.Test.YtepegiklnhoobaaMayI
import Derived.Test.YtepegiklnhoobaaGrantsI
namespace Go.Proofs.Ytepegiklnhoobaa
set_option linter.unusedVariables false
set_option linter.unusedSimpArgs false
set_option linter.unusedSectionVars false
open Go.RowKit

noncomputable def allowB (rl : List DRole) (l : List DGrant) (nm o : ByteArray) (act : Int) : Bool := grantsB rl l && (decide (0 ≤ fnd rl nm) && (inB act 1 3 && mayB rl l (fnd rl nm).toNat o act))
theorem allow_no {rl : List DRole} {l : List DGrant} {nm o : ByteArray} {act : Int} (h : grantsB rl l = false) : allowB rl l nm o act = false := by unfold allowB; rw [h]; rfl
theorem allow_none {rl : List DRole} {l : List DGrant} {nm o : ByteArray} {act : Int} (h : fnd rl nm = -1) : allowB rl l nm o act = false := by unfold allowB; rw [h]; simp
theorem allow_act {rl : List DRole} {l : List DGrant} {nm o : ByteArray} {act : Int} (h : inB act 1 3 = false) : allowB rl l nm o act = false := by unfold allowB; rw [h]; simp
theorem allow_is {rl : List DRole} {l : List DGrant} {nm o : ByteArray} {act : Int} {a : Nat} (h : grantsB rl l = true) (hf : fnd rl nm = a) : allowB rl l nm o act = (inB act 1 3 && mayB rl l a o act) := by
  unfold allowB
  rw [h, hf, decide_eq_true (by omega), Int.toNat_natCast]
  rfl
theorem rights_iff {rl : List DRole} {l : List DGrant} {a : Nat} {o : ByteArray} {act : Int} (hgo : ∀ x ∈ l, okG rl x = true) : (inB act 1 3 && mayB rl l a o act) = true ↔ (o, act) ∈ rightsT rl a l := by
  constructor
  · intro h
    rw [Bool.and_eq_true] at h
    have := inB_spec h.1
    exact (rights_mem this.1).2 h.2
  · intro h
    obtain ⟨h1, x, hx, _, h3⟩ := rights_pos h
    have := okG_action (hgo x hx)
    simp only at h1 h3
    rw [Bool.and_eq_true]
    exact ⟨inB_true h1 (by omega), (rights_mem h1).1 h⟩
theorem grants_roles {rl : List DRole} {l : List DGrant} (h : grantsB rl l = true) : ∀ i, RoleOk nameB rl i := (rolesBy_spec (sorted_of_grants h).roles).2.1

set_option maxRecDepth 100000 in
set_option maxHeartbeats 2000000 in
theorem S_IsAllowedTo (A1 : Option Addr) (n1 c1 : Nat) (rl : List DRole) (A : Option Addr) (n c : Nat) (l : List DGrant) (nm o : ByteArray) (act : Int) (w : World) (hrl : RdRole w A1 n1 rl) (hn1 : n1 ≤ 1048576) (hg1 : ∀ x ∈ rl, x.good) (hs1 : sumRole rl ≤ 1048576)
    (hr : Rd grantE w A n l) (hn : n ≤ 1048576) (hg : ∀ x ∈ l, x.good) (hs : sumGrant l ≤ 1048576) (hz1 : nm.size ≤ 1048576) (hz2 : o.size ≤ 1048576) (ha1 : -9223372036854775808 ≤ act) (ha2 : act ≤ 9223372036854775807) :
    Calls Try.prog 30 #[.slice A1 n1 c1, .slice A n c, .string nm, .string o, .int .i64 act] w (RetB (allowB rl l nm o act) w) := by
  have hok := s_l28Ok A1 A n1 c1 n c rl l w hrl hn1 hg1 hs1 hr (by unfold maxLen; omega) hg
  rcases hB : grantsB rl l with _ | _
  · have E : Hid (allowB rl l nm o act = false) := Lib.hid (allow_no hB)
    rw [hB] at hok
    clear hB
    go_enter Try.func30, Try.ntmps30
    go_wp2_with fail
    refine hok.mono ?_
    rintro e w1 ⟨rfl, hb1⟩
    clear hok
    go_wp2
    go_ret
    exact ⟨ret_bool E.out.symm, hb1⟩
  · have HB := Lib.hid hB
    rw [hB] at hok
    clear hB
    go_enter Try.func30, Try.ntmps30
    go_wp2_with fail
    refine hok.mono ?_
    rintro e w1 ⟨rfl, hb1⟩
    clear hok
    have hF := s_l28Find A1 n1 c1 rl nm w1 (hrl.below hb1) hn1
    rcases fnd_cases rl nm with ⟨hf, _⟩ | ⟨a, _, hf, _, _⟩
    · have E : Hid (allowB rl l nm o act = false) := Lib.hid (allow_none hf)
      rw [hf] at hF
      clear hf
      go_wp2_with fail
      refine hF.mono ?_
      rintro e w2 ⟨rfl, rfl⟩
      clear hF
      go_wp2
      go_ret
      exact ⟨ret_bool E.out.symm, hb1⟩
    · have HE := Lib.hid (allow_is (o := o) (act := act) HB.out hf)
      rw [hf] at hF
      clear hf
      have hA := s_l28Action act w1
      have hFa := Lib.hid hF
      rcases hin : inB act 1 3 with _ | _
      · have E : Hid (allowB rl l nm o act = false) := Lib.hid (by rw [HE.out, hin]; rfl)
        rw [hin] at hA
        clear hin
        go_wp2_with fail
        refine hF.mono ?_
        rintro e w2 ⟨rfl, rfl⟩
        clear hF
        go_wp2_with fail
        refine hA.mono ?_
        rintro e w2 ⟨rfl, rfl⟩
        clear hA
        go_wp2
        go_ret
        exact ⟨ret_bool E.out.symm, hb1⟩
      · have E : Hid (allowB rl l nm o act = mayB rl l a o act) := Lib.hid (by rw [HE.out, hin]; rfl)
        rw [hin] at hA
        clear hin
        go_wp2_with fail
        refine hF.mono ?_
        rintro e w2 ⟨rfl, rfl⟩
        clear hF
        go_wp2_with fail
        refine hA.mono ?_
        rintro e w2 ⟨rfl, rfl⟩
        clear hA
        go_wp2_with fail
        refine hFa.out.mono ?_
        rintro e w2 ⟨rfl, rfl⟩
        go_wp2_with fail
        refine (s_l28May A1 n1 c1 rl A n c l a o act _ (hrl.below hb1) hn1 hs1 (hr.below hb1) hn (grants_roles HB.out) (sorted_of_grants HB.out).ok).mono ?_
        rintro e w2 ⟨rfl, hb2⟩
        have hbF := hb1.trans (hb2.mono hb1.size)
        go_wp2
        go_ret
        exact ⟨ret_bool E.out.symm, hbF⟩

set_option maxRecDepth 100000 in
set_option maxHeartbeats 2000000 in
theorem I_IsAllowedTo (A1 : Option Addr) (n1 c1 : Nat) (rl : List DRole) (A : Option Addr) (n c : Nat) (l : List DGrant) (nm o : ByteArray) (act : Int) (w : World) (hrl : RdRole w A1 n1 rl) (hn1 : n1 ≤ 1048576) (hg1 : ∀ x ∈ rl, x.good) (hs1 : sumRole rl ≤ 1048576)
    (hr : Rd grantE w A n l) (hn : n ≤ 1048576) (hg : ∀ x ∈ l, x.good) (hs : sumGrant l ≤ 1048576) (hz1 : nm.size ≤ 1048576) (hz2 : o.size ≤ 1048576) (ha1 : -9223372036854775808 ≤ act) (ha2 : act ≤ 9223372036854775807) :
    Calls Try.prog 31 #[.slice A1 n1 c1, .slice A n c, .string nm, .string o, .int .i64 act] w (RetB (allowB rl l nm o act) w) := by
  have hok := I_ValidGrants A1 n1 c1 rl A n c l w hrl hn1 hg1 hs1 hr hn hg hs
  rcases hB : grantsB rl l with _ | _
  · have E : Hid (allowB rl l nm o act = false) := Lib.hid (allow_no hB)
    rw [hB] at hok
    clear hB
    go_enter Try.func31, Try.ntmps31
    go_wp2_with fail
    refine hok.mono ?_
    rintro e w1 ⟨rfl, hb1⟩
    clear hok
    go_wp2
    go_ret
    exact ⟨ret_bool E.out.symm, hb1⟩
  · have HB := Lib.hid hB
    rw [hB] at hok
    clear hB
    go_enter Try.func31, Try.ntmps31
    go_wp2_with fail
    refine hok.mono ?_
    rintro e w1 ⟨rfl, hb1⟩
    clear hok
    have hF := i_roleOf A1 n1 c1 rl nm w1 (hrl.below hb1) hn1
    rcases fnd_cases rl nm with ⟨hf, _⟩ | ⟨a, _, hf, _, _⟩
    · have E : Hid (allowB rl l nm o act = false) := Lib.hid (allow_none hf)
      rw [hf] at hF
      clear hf
      go_wp2_with fail
      refine hF.mono ?_
      rintro e w2 ⟨rfl, hb2⟩
      have hbF := hb1.trans (hb2.mono hb1.size)
      clear hF
      go_wp2
      go_ret
      exact ⟨ret_bool E.out.symm, hbF⟩
    · have HE := Lib.hid (allow_is (o := o) (act := act) HB.out hf)
      have HF := Lib.hid hf
      rw [hf] at hF
      clear hf
      go_wp2_with fail
      refine hF.mono ?_
      rintro e w2 ⟨rfl, hb2⟩
      have hbF := hb1.trans (hb2.mono hb1.size)
      clear hF
      go_wp2_with fail
      refine (i_rightsOf A1 n1 c1 rl A n c l a nm _ (hrl.below hbF) hn1 hs1 (hr.below hbF) hn (grants_roles HB.out) (sorted_of_grants HB.out).ok HF.out).mono ?_
      rintro e w3 ⟨b, cnt, rfl, hmap, hb3⟩
      have hbG := hbF.trans (hb3.mono hbF.size)
      have hlook := hmap.look (p := (o, act)) ⟨(show o.size ≤ maxLen by unfold maxLen; omega), wf64_small ⟨ha1, ha2⟩⟩ (inB act 1 3 && mayB rl l a o act) (rights_iff (sorted_of_grants HB.out).ok)
      rw [← HE.out] at hlook
      unfold rtV at hlook
      obtain ⟨r, hr'⟩ : ∃ r, allowB rl l nm o act = r := ⟨_, rfl⟩
      have HR := Lib.hid hr'
      rw [hr'] at hlook
      clear hr' HE hmap
      go_wp2
      go_ret
      exact ⟨ret_bool HR.out.symm, hbG⟩

end Go.Proofs.Ytepegiklnhoobaa
