/- Grants: whether they are valid. -/
import Derived.Test.YtepegiklnhoobaaRows
import Derived.Test.YtepegiklnhoobaaGOrd
import Derived.Test.YtepegiklnhoobaaRolesS
import Derived.Test.YtepegiklnhoobaaRolesI
namespace Go.Proofs.Ytepegiklnhoobaa
set_option linter.unusedVariables false
set_option linter.unusedSimpArgs false
set_option linter.unusedSectionVars false
open Go.RowKit

theorem okG_no {rl : List DRole} {x : DGrant} (h : fnd rl x.fRole = -1) : okG rl x = false := by
  unfold okG
  rw [h]
  rfl
theorem okG_yes {rl : List DRole} {x : DGrant} {y : Nat} (h : fnd rl x.fRole = y) : okG rl x = (nameB x.fObject && inB x.fAction 1 3) := by
  unfold okG
  rw [h, decide_eq_true (by omega), Bool.true_and]
set_option maxHeartbeats 1000000 in
theorem s_l28One (A : Option Addr) (n c b off : Nat) (rl : List DRole) (x : DGrant) (w : World) (hr : RdRole w A n rl) (hn : n ≤ 1048576) (hg : x.good) (hc : w.rangeAt b off (grantE.cells x)) :
    Calls Try.prog 80 #[.slice A n c, .pointer (some ⟨b, off, none⟩)] w fun e w' => e = .returned (.bool (okG rl x)) ∧ w = w' := by
  have hc0 := hc 0 (.string x.fRole) rfl
  have hc1 := hc 1 (.string x.fObject) rfl
  have hc2 := hc 2 (.int .i64 x.fAction) rfl
  rw [Nat.add_zero] at hc0
  clear hc
  have hF := s_l28Find A n c rl x.fRole w hr hn
  rcases fnd_cases rl x.fRole with ⟨hf, _⟩ | ⟨y, _, hf, hy, _⟩
  · have E := Lib.hid (okG_no hf)
    rw [hf] at hF
    clear hf
    go_enter Try.func80, Try.ntmps80
    go_wp2_with fail
    refine hF.mono ?_
    rintro e w1 ⟨rfl, rfl⟩
    clear hF
    go_wp2
    go_ret
    exact ⟨ret_bool E.out.symm, rfl⟩
  · have E := Lib.hid (okG_yes hf)
    have hyn : y ≤ 1048576 := by have := (List.getElem?_eq_some_iff.1 hy).1; have := hr.len; omega
    rw [hf] at hF
    clear hf hy
    rcases h1 : nameB x.fObject with _ | _
    · have H1 := Lib.hid h1
      have C1 := s_l01Name x.fObject w hg.2.1
      rw [h1] at C1
      clear h1
      go_enter Try.func80, Try.ntmps80
      go_wp2_with fail
      refine hF.mono ?_
      rintro e w1 ⟨rfl, rfl⟩
      clear hF
      go_wp2_with fail
      refine C1.mono ?_
      rintro e w1 ⟨rfl, rfl⟩
      clear C1
      go_wp2
      go_ret
      exact ⟨ret_bool (by rw [E.out, H1.out]; rfl), rfl⟩
    · have H1 := Lib.hid h1
      have C1 := s_l01Name x.fObject w hg.2.1
      rw [h1] at C1
      clear h1
      go_enter Try.func80, Try.ntmps80
      go_wp2_with fail
      refine hF.mono ?_
      rintro e w1 ⟨rfl, rfl⟩
      clear hF
      go_wp2_with fail
      refine C1.mono ?_
      rintro e w1 ⟨rfl, rfl⟩
      clear C1
      go_wp2_with fail
      refine (s_l28Action x.fAction _).mono ?_
      rintro e w1 ⟨rfl, rfl⟩
      go_wp2
      go_ret
      exact ⟨ret_bool (by rw [E.out, H1.out]; rfl), rfl⟩

set_option maxHeartbeats 1000000 in
theorem s_l28Before (b off b' off' : Nat) (x y : DGrant) (w : World) (hc : w.rangeAt b off (grantE.cells x)) (hd : w.rangeAt b' off' (grantE.cells y)) :
    Calls Try.prog 81 #[.pointer (some ⟨b, off, none⟩), .pointer (some ⟨b', off', none⟩)] w fun e w' => e = .returned (.bool (decide (cmpGr x y < 0))) ∧ ∃ m, w' = w.drewN m := by
  have hc0 := hc 0 (.string x.fRole) rfl
  have hc1 := hc 1 (.string x.fObject) rfl
  have hc2 := hc 2 (.int .i64 x.fAction) rfl
  have hd0 := hd 0 (.string y.fRole) rfl
  have hd1 := hd 1 (.string y.fObject) rfl
  have hd2 := hd 2 (.int .i64 y.fAction) rfl
  rw [Nat.add_zero] at hc0 hd0
  clear hc hd
  have E := Lib.hid (beforeG_eq x y)
  by_cases h1 : x.fRole = y.fRole
  · have H1 := Lib.hid h1
    have h1' : (x.fRole.toList == y.fRole.toList) = true := by rw [h1]; exact beq_self_eq_true _
    clear h1
    by_cases h2 : x.fObject = y.fObject
    · have H2 := Lib.hid h2
      have h2' : (x.fObject.toList == y.fObject.toList) = true := by rw [h2]; exact beq_self_eq_true _
      clear h2
      go_enter Try.func81, Try.ntmps81
      go_wp2_with fail
      go_quiet (fail)
      go_wp2_with fail
      go_quiet (fail)
      go_wp2_with fail
      go_quiet (fail)
      go_wp2
      go_ret
      exact ⟨ret_bool (by rw [← E.out, decide_eq_true H1.out, decide_eq_true H2.out]; rfl), by first | exact ⟨_, rfl⟩ | exact ⟨_, by simp only [World.drewN_drewN]; rfl⟩⟩
    · have H2 := Lib.hid h2
      have h2' : (x.fObject.toList == y.fObject.toList) = false := by rw [eqS_iff]; exact decide_eq_false h2
      clear h2
      go_enter Try.func81, Try.ntmps81
      go_wp2_with fail
      go_quiet (fail)
      go_wp2_with fail
      go_quiet (fail)
      go_wp2_with fail
      go_quiet (fail)
      go_wp2
      go_ret
      exact ⟨ret_bool (by rw [← E.out, decide_eq_true H1.out, decide_eq_false H2.out]; rfl), by first | exact ⟨_, rfl⟩ | exact ⟨_, by simp only [World.drewN_drewN]; rfl⟩⟩
  · have H1 := Lib.hid h1
    have h1' : (x.fRole.toList == y.fRole.toList) = false := by rw [eqS_iff]; exact decide_eq_false h1
    clear h1
    go_enter Try.func81, Try.ntmps81
    go_wp2_with fail
    go_quiet (fail)
    go_wp2_with fail
    go_quiet (fail)
    go_wp2
    go_ret
    exact ⟨ret_bool (by rw [← E.out, decide_eq_false H1.out]; rfl), by first | exact ⟨_, rfl⟩ | exact ⟨_, by simp only [World.drewN_drewN]; rfl⟩⟩
theorem beforeG_quiet (b off b' off' : Nat) (x y : DGrant) (r : Bool) (hr : decide (cmpGr x y < 0) = r) (w : World) (n : Nat) (hc : w.rangeAt b off (grantE.cells x)) (hd : w.rangeAt b' off' (grantE.cells y)) :
    Calls Try.prog 81 #[.pointer (some ⟨b, off, none⟩), .pointer (some ⟨b', off', none⟩)] (w.drewN n) fun e w'' => e = .returned (.bool r) ∧ ∃ m, w'' = w.drewN m := by
  subst hr
  exact Calls.quiet_of (s_l28Before b off b' off' x y (w.drewN n) hc hd)
theorem oneG_quiet (A : Option Addr) (n' c b off : Nat) (rl : List DRole) (x : DGrant) (r : Bool) (hr : okG rl x = r) (w : World) (n : Nat) (hrl : RdRole w A n' rl) (hn : n' ≤ 1048576) (hg : x.good) (hc : w.rangeAt b off (grantE.cells x)) :
    Calls Try.prog 80 #[.slice A n' c, .pointer (some ⟨b, off, none⟩)] (w.drewN n) fun e w'' => e = .returned (.bool r) ∧ ∃ m, w'' = w.drewN m := by
  subst hr
  exact quiet_left (s_l28One A n' c b off rl x (w.drewN n) (hrl.drewN n) hn hg hc)

theorem grants_noroles {rl : List DRole} {l : List DGrant} (h : rolesB rl = false) : grantsB rl l = false := by unfold grantsB; rw [h]; rfl
theorem grants_long {rl : List DRole} {l : List DGrant} (h : 48 < l.length) : grantsB rl l = false := by unfold grantsB; rw [decide_eq_false (by omega)]; simp
theorem grants_chain {rl : List DRole} {l : List DGrant} (h : rolesB rl = true) (h' : l.length ≤ 48) : grantsB rl l = chainG rl l := by unfold grantsB; rw [h, decide_eq_true h']; rfl
set_option maxRecDepth 100000 in
set_option maxHeartbeats 2000000 in
theorem s_l28Ok (A1 A : Option Addr) (n1 c1 n c : Nat) (rl : List DRole) (l : List DGrant) (w : World) (hrl : RdRole w A1 n1 rl) (hn1 : n1 ≤ 1048576) (hg1 : ∀ x ∈ rl, x.good) (hs1 : sumRole rl ≤ 1048576)
    (hr : Rd grantE w A n l) (hn : n ≤ maxLen) (hg : ∀ x ∈ l, x.good) :
    Calls Try.prog 65 #[.slice A1 n1 c1, .slice A n c] w (RetB (grantsB rl l) w) := by
  unfold maxLen at hn
  have Hl := Lib.hid hr.1
  have HG := Lib.hid hg; clear hg
  have hroles := s_l28Roles A1 n1 c1 rl w hrl hn1 hg1 hs1
  rcases hR : rolesB rl with _ | _
  · have E : Hid (grantsB rl l = false) := Lib.hid (grants_noroles hR)
    rw [hR] at hroles
    clear hR
    go_enter Try.func65, Try.ntmps65
    go_wp2_with fail
    refine hroles.mono ?_
    rintro e w1 ⟨rfl, hb1⟩
    clear hroles
    go_wp2
    go_ret
    exact ⟨ret_bool E.out.symm, hb1⟩
  · by_cases h48 : 48 < n
    · have E : Hid (grantsB rl l = false) := Lib.hid (grants_long (by have := Hl.out; omega))
      rw [hR] at hroles
      clear hR
      go_enter Try.func65, Try.ntmps65
      go_wp2_with fail
      refine hroles.mono ?_
      rintro e w1 ⟨rfl, hb1⟩
      clear hroles
      go_wp2
      go_ret
      exact ⟨ret_bool E.out.symm, hb1⟩
    · have EQ : Hid (grantsB rl l = chainG rl l) := Lib.hid (grants_chain hR (by have := Hl.out; omega))
      rw [hR] at hroles
      clear hR
      go_enter Try.func65, Try.ntmps65
      go_wp2_with fail
      refine hroles.mono ?_
      rintro e w1 ⟨rfl, hb1⟩
      clear hroles
      go_wp2_with fail
      go_loopw [5] (fun i wr => ∃ k : Nat, k ≤ n ∧ i = .int .i64 k ∧ Below w.heap.size w wr ∧ Hid (chainG rl l = chainB (okG rl) (fun x y => decide (cmpGr x y < 0)) (prevOf l k) (l.drop k))) (fun i _ => n - (intOf i).toNat)
      case atStart => exact ⟨0, Nat.zero_le _, rfl, hb1, Lib.hid rfl⟩
      case round =>
        clear hb1
        obtain ⟨k, hk, rfl, hb, HH⟩ := hrel
        by_cases hlt : k < n
        · obtain ⟨b, off, rfl, hcs⟩ := hr.2 (by omega)
          obtain ⟨x, hx⟩ : ∃ x, l[k]? = some x := ⟨_, List.getElem?_eq_getElem (by have := Hl.out; omega)⟩
          have HX := Lib.hid (range_below (B := 0) (hcs k x hx) hb)
          have HGx := Lib.hid (HG.out x (mem_of_get hx))
          have HRL := Lib.hid (hrl.below hb)
          rcases hbx : okG rl x with _ | _
          · have HB := Lib.hid hbx; clear hbx
            have E : Hid (grantsB rl l = false) := Lib.hid (by
              rw [EQ.out, HH.out]
              match k with
              | 0 => rw [chain_first hx, HB.out]; rfl
              | j + 1 =>
                obtain ⟨p, hp⟩ : ∃ p, l[j]? = some p := ⟨_, List.getElem?_eq_getElem (by have := Hl.out; omega)⟩
                rw [chain_next hp hx, HB.out]; rfl)
            clear hx hcs
            go_wp2_with fail
            go_quiet ((go_at_call 80; exact oneG_quiet _ _ _ _ _ rl x false HB.out _ _ HRL.out hn1 HGx.out HX.out))
            go_wp2
            go_ret
            exact ⟨ret_bool E.out.symm, below_drewN hb _⟩
          · have HB := Lib.hid hbx; clear hbx
            match k, hk, hlt, hx, HX, HH with
            | 0, hk, hlt, hx, HX, HH =>
              have HC : Hid (chainG rl l = chainB (okG rl) (fun x y => decide (cmpGr x y < 0)) (prevOf l 1) (l.drop 1)) := Lib.hid (by rw [HH.out, chain_first hx, HB.out]; rfl)
              clear hx hcs HH
              go_wp2_with fail
              go_quiet ((go_at_call 80; exact oneG_quiet _ _ _ _ _ rl x true HB.out _ _ HRL.out hn1 HGx.out HX.out))
              go_wp2
              first | (refine ⟨⟨1, by omega, by go_num, below_drewN hb _, HC⟩, ?_⟩; (simp [intOf]; omega)) | (go_roundw; (case rel => first | exact ⟨1, by omega, by go_num, below_drewN hb _, HC⟩ | ((try refine ⟨trivial, ?_⟩); (repeat apply Exists.intro); exact ⟨⟨1, by omega, by go_num, below_drewN hb _, HC⟩, rfl⟩)); (case measure => (simp [intOf]; omega)))
            | j + 1, hk, hlt, hx, HX, HH =>
              obtain ⟨p, hp⟩ : ∃ p, l[j]? = some p := ⟨_, List.getElem?_eq_getElem (by have := Hl.out; omega)⟩
              have HP := Lib.hid (range_below (B := 0) (hcs j p hp) hb)
              have HC := HH.out.trans (chain_next hp hx)
              rcases hlt' : decide (cmpGr p x < 0) with _ | _
              · have HL := Lib.hid hlt'
                have E : Hid (grantsB rl l = false) := Lib.hid (by rw [EQ.out, HC, HB.out, hlt']; rfl)
                clear hx hcs HH HC hlt' hp
                go_wp2_with fail
                go_quiet ((first | (go_at_call 80; exact oneG_quiet _ _ _ _ _ rl x true HB.out _ _ HRL.out hn1 HGx.out HX.out) | (go_at_call 81; exact beforeG_quiet _ _ _ _ p x false HL.out _ _ HP.out HX.out)))
                go_wp2
                go_ret
                exact ⟨ret_bool E.out.symm, below_drewN hb _⟩
              · have HL := Lib.hid hlt'
                have HC' : Hid (chainG rl l = chainB (okG rl) (fun x y => decide (cmpGr x y < 0)) (prevOf l (j + 2)) (l.drop (j + 2))) := Lib.hid (by rw [HC, HB.out, hlt']; rfl)
                clear hx hcs HH HC hlt' hp
                go_wp2_with fail
                go_quiet ((first | (go_at_call 80; exact oneG_quiet _ _ _ _ _ rl x true HB.out _ _ HRL.out hn1 HGx.out HX.out) | (go_at_call 81; exact beforeG_quiet _ _ _ _ p x true HL.out _ _ HP.out HX.out)))
                go_wp2
                first | (refine ⟨⟨j + 2, by omega, by go_num, below_drewN hb _, HC'⟩, ?_⟩; (simp [intOf]; omega)) | (go_roundw; (case rel => first | exact ⟨j + 2, by omega, by go_num, below_drewN hb _, HC'⟩ | ((try refine ⟨trivial, ?_⟩); (repeat apply Exists.intro); exact ⟨⟨j + 2, by omega, by go_num, below_drewN hb _, HC'⟩, rfl⟩)); (case measure => (simp [intOf]; omega)))
        · have E : Hid (grantsB rl l = true) := Lib.hid (by
            rw [EQ.out, HH.out, List.drop_of_length_le (by have := Hl.out; omega)]
            unfold chainB
            rfl)
          go_wp2
          go_ret
          exact ⟨ret_bool E.out.symm, hb⟩
theorem S_ValidGrants (A1 : Option Addr) (n1 c1 : Nat) (rl : List DRole) (A : Option Addr) (n c : Nat) (l : List DGrant) (w : World) (hrl : RdRole w A1 n1 rl) (hn1 : n1 ≤ 1048576) (hg1 : ∀ x ∈ rl, x.good) (hs1 : sumRole rl ≤ 1048576)
    (hr : Rd grantE w A n l) (hn : n ≤ 1048576) (hg : ∀ x ∈ l, x.good) (hs : sumGrant l ≤ 1048576) :
    Calls Try.prog 26 #[.slice A1 n1 c1, .slice A n c] w (RetB (grantsB rl l) w) := by
  go_enter Try.func26, Try.ntmps26
  go_wp2_with fail
  refine (s_l28Ok A1 A n1 c1 n c rl l _ hrl hn1 hg1 hs1 hr (by unfold maxLen; omega) hg).mono ?_
  rintro e w1 ⟨rfl, hb⟩
  go_wp2
  go_ret
  exact ⟨rfl, hb⟩

end Go.Proofs.Ytepegiklnhoobaa
