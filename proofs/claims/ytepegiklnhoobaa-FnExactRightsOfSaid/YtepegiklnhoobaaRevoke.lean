/- Grants without one. -/
import Derived.Test.YtepegiklnhoobaaRows
import Derived.Test.YtepegiklnhoobaaGrants
import Derived.Test.YtepegiklnhoobaaGrantsI
import Derived.Test.YtepegiklnhoobaaSlGrant
namespace Go.Proofs.Ytepegiklnhoobaa
set_option linter.unusedVariables false
set_option linter.unusedSimpArgs false
set_option linter.unusedSectionVars false
open Go.RowKit

theorem eqv_swap (x y : DGrant) : x.eqv y = y.eqv x := by
  rw [Bool.eq_iff_iff, DGrant.eqv_iff, DGrant.eqv_iff]
  exact ⟨fun h => h.symm, fun h => h.symm⟩
def revP (l : List DGrant) (x : DGrant) : Option Nat := l.findIdx? fun y => y.eqv x
noncomputable def revList (rl : List DRole) (l : List DGrant) (x : DGrant) : List DGrant := if grantsB rl l then (match revP l x with | some p => l.take p ++ l.drop (p + 1) | none => []) else []
noncomputable def revCode (rl : List DRole) (l : List DGrant) (x : DGrant) : Int := if grantsB rl l then (match revP l x with | some _ => 0 | none => 3) else 1
theorem revP_at {l : List DGrant} {x y : DGrant} {k : Nat} (hy : l[k]? = some y) (he : y.eqv x = true) (hf : ∀ (j : Nat) z, j < k → l[j]? = some z → z.eqv x = false) : revP l x = some k := by
  obtain ⟨hk, hk2⟩ := List.getElem?_eq_some_iff.1 hy
  unfold revP
  rw [List.findIdx?_eq_some_iff_getElem]
  refine ⟨hk, by rw [hk2]; exact he, fun j hj => ?_⟩
  have := hf j _ hj (List.getElem?_eq_getElem (by omega))
  simpa using this
theorem revP_none {l : List DGrant} {x : DGrant} (hf : ∀ (j : Nat) z, l[j]? = some z → z.eqv x = false) : revP l x = none := by
  unfold revP
  rw [List.findIdx?_eq_none_iff]
  intro z hz
  obtain ⟨j, hj⟩ := List.mem_iff_getElem?.1 hz
  exact hf j z hj
theorem rev_bad {rl : List DRole} {l : List DGrant} {x : DGrant} (h : grantsB rl l = false) : revList rl l x = [] ∧ revCode rl l x = 1 := by
  unfold revList revCode
  rw [h]
  exact ⟨rfl, rfl⟩
theorem rev_none {rl : List DRole} {l : List DGrant} {x : DGrant} (h : grantsB rl l = true) (hp : revP l x = none) : revList rl l x = [] ∧ revCode rl l x = 3 := by
  unfold revList revCode
  rw [h, hp]
  exact ⟨rfl, rfl⟩
theorem rev_some {rl : List DRole} {l : List DGrant} {x : DGrant} {p : Nat} (h : grantsB rl l = true) (hp : revP l x = some p) : revList rl l x = l.take p ++ l.drop (p + 1) ∧ revCode rl l x = 0 := by
  unfold revList revCode
  rw [h, hp]
  exact ⟨rfl, rfl⟩

set_option maxRecDepth 100000 in
set_option maxHeartbeats 2000000 in
theorem s_l28Without (A : Option Addr) (n c p : Nat) (l : List DGrant) (w : World) (hr : Rd grantE w A n l) (hcap : n ≤ c) (hn : n ≤ 1048576) (hp : p < n) :
    Calls Try.prog 72 #[.slice A n c, .int .i64 p] w (RetL grantE 50 (l.take p ++ l.drop (p + 1)) w) := by
  obtain ⟨i0, hi, hz0, hz1, hz2⟩ := info_parts Try.inf_Grant
  have Hl := Lib.hid hr.1
  obtain ⟨b, off, rfl, _⟩ := hr.2 (by omega)
  have hb2 : Below w.heap.size w (w.alloc (.cells #[] 50)) := by (repeat (first | exact Below.refl _ _ | assumption | refine Below.drew ?_ | refine Below.alloc ?_ (by first | omega | (simp; done) | (simp; omega) | exact Below.size (by assumption)) _ | refine Below.setCell ?_ (by first | omega | (simp; done) | (simp; omega)) _))
  have hr2 := hr.below hb2
  have hr3 := hr2.take p (by omega)
  have hgl0 : GL grantE 50 w.heap.size (w.alloc (.cells #[] 50)) (.slice (some ⟨w.heap.size, 0, none⟩) 0 0) [] := GL.mk0 (Nat.le_refl _)
  have hlt : (l.take p).length = p := by rw [List.length_take, Hl.out]; omega
  have hpc : p ≤ c := by omega
  have hpc1 : p + 1 ≤ c := by omega
  obtain ⟨AD, hAD⟩ : ∃ AD : Option Addr, (if c = p + 1 then (some ⟨b, off, none⟩ : Option Addr) else some ⟨b, off + (p + 1) * 3, none⟩) = AD := ⟨_, rfl⟩
  have hr4 : 0 < n - (p + 1) → ∃ ad, AD = some ad ∧ ∀ W, Below w.heap.size w W → ∀ j u, ((l.drop (p + 1)).flatMap grantE.cells)[j]? = some u → W.cell? (ad.add j) = some u := fun h => by
    refine ⟨⟨b, off + (p + 1) * 3, none⟩, ?_, fun W hW j u hu => ?_⟩
    · rw [← hAD, if_neg (by omega)]
    · obtain ⟨ad, e, h'⟩ := (((hr.below hW).drop (p + 1) (by omega)).src (by omega))
      cases e
      exact h' j u hu
  have hADn : AD = none → n - (p + 1) = 0 := fun h => by rw [← hAD] at h; split at h <;> cases h
  have hdl : (l.drop (p + 1)).length = n - (p + 1) := by rw [List.length_drop, Hl.out]
  have hsum2 : p + (n - (p + 1)) = n - 1 := by omega
  go_enter Try.func72, Try.ntmps72
  go_wp2_with (first
    | (at_builtin; refine wpList_pushL grantE rfl (.tmp 6) (.tmp 9) 39 rfl w.heap.size 50 i0 _ 40 Try.underlying39 hi hz0 hz1 hz2 rfl (.slice (some ⟨w.heap.size, 0, none⟩) 0 0) [] (l.take p) rfl hgl0 (some ⟨b, off, none⟩) p c rfl hlt (fun h => by cases h) hr3.src p (by simp) (l.take p) (by simp) (by omega) (by decide) w hb2 hb2.size ?_; intro A1 c1 w3 hgl1 _ hb3 hs3)
    | (at_builtin; refine wpList_pushL grantE rfl (.tmp 11) (.tmp 15) 39 rfl w.heap.size 50 i0 _ 40 Try.underlying39 hi hz0 hz1 hz2 rfl (.slice A1 p c1) (l.take p) (l.drop (p + 1)) rfl hgl1 AD (n - (p + 1)) (c - (p + 1)) rfl hdl hADn (fun h => by obtain ⟨ad, e, h'⟩ := hr4 h; exact ⟨ad, e, h' _ hb3⟩) (n - 1) (by rw [hlt]; exact hsum2) _ rfl (by omega) (by decide) w hb3 hs3 ?_; intro A2 c2 w4 hgl2 _ hb4 hs4))
  go_ret
  exact RetL.mk hgl2 (by omega) rfl hb4

set_option maxRecDepth 100000 in
set_option maxHeartbeats 2000000 in
theorem i_IndexGrant (A : Option Addr) (n c : Nat) (l : List DGrant) (x : DGrant) (w : World) (hr : Rd grantE w A n l) (hn : n ≤ 1048576) :
    Calls Try.prog 73 #[.slice A n c, .agg #[.string x.fRole, .string x.fObject, .int .i64 x.fAction]] w fun e w' => (∃ p, revP l x = some p ∧ p < n ∧ e = .returned (.int .i64 p) ∧ Below w.heap.size w w') ∨ (revP l x = none ∧ e = .returned (.int .i64 (-1)) ∧ Below w.heap.size w w') := by
  have Hl := Lib.hid hr.1
  have hcx := range_new w #[.string x.fRole, .string x.fObject, .int .i64 x.fAction] 50
  have hb0 : Below w.heap.size w (w.alloc (.cells #[.string x.fRole, .string x.fObject, .int .i64 x.fAction] 50)) := by (repeat (first | exact Below.refl _ _ | assumption | refine Below.drew ?_ | refine Below.alloc ?_ (by first | omega | (simp; done) | (simp; omega) | exact Below.size (by assumption)) _ | refine Below.setCell ?_ (by first | omega | (simp; done) | (simp; omega)) _))
  have hx0 := hcx 0 _ rfl
  have hx1 := hcx 1 _ rfl
  have hx2 := hcx 2 _ rfl
  simp only [Nat.zero_add] at hx0 hx1 hx2
  clear hcx
  go_enter Try.func73, Try.ntmps73
  go_wp2_with fail
  go_loopw [8] (fun i wr => ∃ k : Nat, k ≤ n ∧ i = .int .i64 k ∧ Below w.heap.size w wr ∧ wr.cell? ⟨w.heap.size, 0, none⟩ = some (.string x.fRole) ∧ wr.cell? ⟨w.heap.size, 1, none⟩ = some (.string x.fObject) ∧ wr.cell? ⟨w.heap.size, 2, none⟩ = some (.int .i64 x.fAction) ∧ Hid (∀ (j : Nat) z, j < k → l[j]? = some z → z.eqv x = false)) (fun i _ => n - (intOf i).toNat)
  case atStart => exact ⟨0, Nat.zero_le _, rfl, hb0, hx0, hx1, hx2, Lib.hid (fun j z h => absurd h (Nat.not_lt_zero _))⟩
  case round =>
    clear hb0 hx0 hx1 hx2
    obtain ⟨k, hk, rfl, hb, hx0, hx1, hx2, HH⟩ := hrel
    by_cases hlt : k < n
    · obtain ⟨b, off, y, rfl, hy, hc⟩ := hr.get hlt
      have hc0 := range_below (B := 0) hc hb 0 _ rfl
      have hc1 := range_below (B := 0) hc hb 1 _ rfl
      have hc2 := range_below (B := 0) hc hb 2 _ rfl
      simp only [grantE, Nat.add_zero] at hc0 hc1 hc2
      have HY := Lib.hid hy
      clear hc hy
      have hne := fun W => run_eql_Grant x y W
      rcases he : x.eqv y with _ | _
      · have HN : Hid (∀ (j : Nat) z, j < k + 1 → l[j]? = some z → z.eqv x = false) := Lib.hid (fun j z hj hz => by
          rcases Nat.lt_or_ge j k with h | h
          · exact HH.out j z h hz
          · obtain rfl : j = k := by omega
            rw [HY.out] at hz
            cases hz
            rw [eqv_swap]
            exact he)
        rw [he] at hne
        clear he
        go_wp2_with fail
        go_quiet (fail)
        clear hne
        go_wp2
        first | (refine ⟨⟨k + 1, by omega, by go_num, below_drewN hb _, hx0, hx1, hx2, HN⟩, ?_⟩; (simp [intOf]; omega)) | (go_roundw; (case rel => first | exact ⟨k + 1, by omega, by go_num, below_drewN hb _, hx0, hx1, hx2, HN⟩ | ((try refine ⟨trivial, ?_⟩); (repeat apply Exists.intro); exact ⟨⟨k + 1, by omega, by go_num, below_drewN hb _, hx0, hx1, hx2, HN⟩, rfl⟩)); (case measure => (simp [intOf]; omega)))
      · have E : Hid (revP l x = some k) := Lib.hid (revP_at HY.out (by rw [eqv_swap]; exact he) HH.out)
        rw [he] at hne
        clear he
        go_wp2_with fail
        go_quiet (fail)
        clear hne
        go_wp2
        go_ret
        exact .inl ⟨k, E.out, hlt, rfl, below_drewN hb _⟩
    · have E : Hid (revP l x = none) := Lib.hid (revP_none (fun j z hz => HH.out j z (by have := (List.getElem?_eq_some_iff.1 hz).1; have := Hl.out; omega) hz))
      go_wp2
      go_ret
      exact .inr ⟨E.out, rfl, hb⟩

set_option maxRecDepth 100000 in
set_option maxHeartbeats 2000000 in
theorem S_RevokeGrant (A1 : Option Addr) (n1 c1 : Nat) (rl : List DRole) (A : Option Addr) (n c : Nat) (l : List DGrant) (x : DGrant) (w : World) (hrl : RdRole w A1 n1 rl) (hn1 : n1 ≤ 1048576) (hg1 : ∀ x ∈ rl, x.good) (hs1 : sumRole rl ≤ 1048576)
    (hr : Rd grantE w A n l) (hcap : n ≤ c) (hn : n ≤ 1048576) (hg : ∀ x ∈ l, x.good) (hs : sumGrant l ≤ 1048576) (hgx : x.good) (hzx : x.sz ≤ 1048576) :
    Calls Try.prog 33 #[.slice A1 n1 c1, .slice A n c, .agg #[.string x.fRole, .string x.fObject, .int .i64 x.fAction]] w (RetLC grantE 50 (revList rl l x) (revCode rl l x) w) := by
  have Hl := Lib.hid hr.1
  have hcx := range_new w #[.string x.fRole, .string x.fObject, .int .i64 x.fAction] 50
  have hb0 : Below w.heap.size w (w.alloc (.cells #[.string x.fRole, .string x.fObject, .int .i64 x.fAction] 50)) := by (repeat (first | exact Below.refl _ _ | assumption | refine Below.drew ?_ | refine Below.alloc ?_ (by first | omega | (simp; done) | (simp; omega) | exact Below.size (by assumption)) _ | refine Below.setCell ?_ (by first | omega | (simp; done) | (simp; omega)) _))
  obtain ⟨W0, hW0⟩ : ∃ W0, w.alloc (.cells #[.string x.fRole, .string x.fObject, .int .i64 x.fAction] 50) = W0 := ⟨_, rfl⟩
  rw [hW0] at hcx hb0
  go_enter Try.func33, Try.ntmps33
  go_wp2_with fail
  try rw [hW0]
  clear hW0
  refine (s_l28Ok A1 A n1 c1 n c rl l _ (hrl.below hb0) hn1 hg1 hs1 (hr.below hb0) (by unfold maxLen; omega) hg).mono ?_
  rintro e w1 ⟨rfl, hb1⟩
  have hx0 := cell_later hb1 (hcx 0 _ rfl)
  have hx1 := cell_later hb1 (hcx 1 _ rfl)
  have hx2 := cell_later hb1 (hcx 2 _ rfl)
  simp only [Nat.zero_add] at hx0 hx1 hx2
  have hbF := hb0.trans (hb1.mono hb0.size)
  clear hcx hb1 hb0
  rcases hB : grantsB rl l with _ | _
  · have HB := Lib.hid (rev_bad (x := x) hB)
    clear hB
    go_wp2
    go_ret2
    exact RetLC.nil HB.out.1 HB.out.2 hbF
  · have HB := Lib.hid hB
    clear hB
    go_wp2_with fail
    go_loopw [8] (fun i wr => ∃ k : Nat, k ≤ n ∧ i = .int .i64 k ∧ Below w.heap.size w wr ∧ wr.cell? ⟨w.heap.size, 0, none⟩ = some (.string x.fRole) ∧ wr.cell? ⟨w.heap.size, 1, none⟩ = some (.string x.fObject) ∧ wr.cell? ⟨w.heap.size, 2, none⟩ = some (.int .i64 x.fAction) ∧ Hid (∀ (j : Nat) z, j < k → l[j]? = some z → z.eqv x = false)) (fun i _ => n - (intOf i).toNat)
    case atStart => exact ⟨0, Nat.zero_le _, rfl, hbF, hx0, hx1, hx2, Lib.hid (fun j z h => absurd h (Nat.not_lt_zero _))⟩
    case round =>
      clear hbF hx0 hx1 hx2
      obtain ⟨k, hk, rfl, hb, hx0, hx1, hx2, HH⟩ := hrel
      by_cases hlt : k < n
      · obtain ⟨b, off, y, rfl, hy, hc⟩ := hr.get hlt
        have hc0 := range_below (B := 0) hc hb 0 _ rfl
        have hc1 := range_below (B := 0) hc hb 1 _ rfl
        have hc2 := range_below (B := 0) hc hb 2 _ rfl
        simp only [grantE, Nat.add_zero] at hc0 hc1 hc2
        have HY := Lib.hid hy
        clear hc hy
        have hne := fun W => run_eql_Grant y x W
        rcases he : y.eqv x with _ | _
        · have HN : Hid (∀ (j : Nat) z, j < k + 1 → l[j]? = some z → z.eqv x = false) := Lib.hid (fun j z hj hz => by
            rcases Nat.lt_or_ge j k with h | h
            · exact HH.out j z h hz
            · obtain rfl : j = k := by omega
              rw [HY.out] at hz
              cases hz
              exact he)
          rw [he] at hne
          clear he
          go_wp2_with fail
          go_quiet (fail)
          clear hne
          go_wp2
          first | (refine ⟨⟨k + 1, by omega, by go_num, below_drewN hb _, hx0, hx1, hx2, HN⟩, ?_⟩; (simp [intOf]; omega)) | (go_roundw; (case rel => first | exact ⟨k + 1, by omega, by go_num, below_drewN hb _, hx0, hx1, hx2, HN⟩ | ((try refine ⟨trivial, ?_⟩); (repeat apply Exists.intro); exact ⟨⟨k + 1, by omega, by go_num, below_drewN hb _, hx0, hx1, hx2, HN⟩, rfl⟩)); (case measure => (simp [intOf]; omega)))
        · have E : Hid (revP l x = some k) := Lib.hid (revP_at HY.out he HH.out)
          have HB2 := Lib.hid (rev_some HB.out E.out)
          have hbd := fun q => below_drewN hb q
          rw [he] at hne
          clear he
          go_wp2_with fail
          go_quiet (fail)
          clear hne
          go_wp2_with fail
          refine (s_l28Without (some ⟨b, off, none⟩) n c k l _ (hr.below (hbd _)) hcap hn hlt).mono ?_
          rintro e w3 ⟨A3, n3, c3, hl3, hn3, ho3, rfl, hb3⟩
          have hgl3 : GL grantE 50 w.heap.size w3 (.slice A3 n3 c3) (l.take k ++ l.drop (k + 1)) := GL.mono (by unfold GL; rw [hl3]; exact ho3) (hbd _).size
          have hbZ := (hbd _).trans (hb3.mono (hbd _).size)
          clear ho3 hb3
          go_wp2
          go_ret2
          exact RetLC.mk hgl3 hn3 HB2.out.1 HB2.out.2 hbZ
      · have E : Hid (revP l x = none) := Lib.hid (revP_none (fun j z hz => HH.out j z (by have := (List.getElem?_eq_some_iff.1 hz).1; have := Hl.out; omega) hz))
        have HB2 := Lib.hid (rev_none HB.out E.out)
        go_wp2
        go_ret2
        exact RetLC.nil HB2.out.1 HB2.out.2 hb

set_option maxRecDepth 100000 in
set_option maxHeartbeats 2000000 in
theorem I_RevokeGrant (A1 : Option Addr) (n1 c1 : Nat) (rl : List DRole) (A : Option Addr) (n c : Nat) (l : List DGrant) (x : DGrant) (w : World) (hrl : RdRole w A1 n1 rl) (hn1 : n1 ≤ 1048576) (hg1 : ∀ x ∈ rl, x.good) (hs1 : sumRole rl ≤ 1048576)
    (hr : Rd grantE w A n l) (hcap : n ≤ c) (hn : n ≤ 1048576) (hg : ∀ x ∈ l, x.good) (hs : sumGrant l ≤ 1048576) (hgx : x.good) (hzx : x.sz ≤ 1048576) :
    Calls Try.prog 35 #[.slice A1 n1 c1, .slice A n c, .agg #[.string x.fRole, .string x.fObject, .int .i64 x.fAction]] w (RetLC grantE 50 (revList rl l x) (revCode rl l x) w) := by
  have Hl := Lib.hid hr.1
  have hcx := range_new w #[.string x.fRole, .string x.fObject, .int .i64 x.fAction] 50
  have hb0 : Below w.heap.size w (w.alloc (.cells #[.string x.fRole, .string x.fObject, .int .i64 x.fAction] 50)) := by (repeat (first | exact Below.refl _ _ | assumption | refine Below.drew ?_ | refine Below.alloc ?_ (by first | omega | (simp; done) | (simp; omega) | exact Below.size (by assumption)) _ | refine Below.setCell ?_ (by first | omega | (simp; done) | (simp; omega)) _))
  obtain ⟨W0, hW0⟩ : ∃ W0, w.alloc (.cells #[.string x.fRole, .string x.fObject, .int .i64 x.fAction] 50) = W0 := ⟨_, rfl⟩
  rw [hW0] at hcx hb0
  go_enter Try.func35, Try.ntmps35
  go_wp2_with fail
  try rw [hW0]
  clear hW0
  refine (I_ValidGrants A1 n1 c1 rl A n c l _ (hrl.below hb0) hn1 hg1 hs1 (hr.below hb0) hn hg hs).mono ?_
  rintro e w1 ⟨rfl, hb1⟩
  have hx0 := cell_later hb1 (hcx 0 _ rfl)
  have hx1 := cell_later hb1 (hcx 1 _ rfl)
  have hx2 := cell_later hb1 (hcx 2 _ rfl)
  simp only [Nat.zero_add] at hx0 hx1 hx2
  have hbF := hb0.trans (hb1.mono hb0.size)
  clear hcx hb1 hb0
  rcases hB : grantsB rl l with _ | _
  · have HB := Lib.hid (rev_bad (x := x) hB)
    clear hB
    go_wp2
    go_ret2
    exact RetLC.nil HB.out.1 HB.out.2 hbF
  · have HB := Lib.hid hB
    clear hB
    go_wp2_with fail
    refine (i_IndexGrant A n c l x _ (hr.below hbF) hn).mono ?_
    rintro e w2 (⟨p, hp, hpn, rfl, hb2⟩ | ⟨hp, rfl, hb2⟩)
    · have HB2 := Lib.hid (rev_some HB.out hp)
      have hbG := hbF.trans (hb2.mono hbF.size)
      clear hp hx0 hx1 hx2 hb2
      obtain ⟨m, rfl⟩ : ∃ m, n = m + 1 := ⟨n - 1, by omega⟩
      go_wp2_with fail
      refine (i_cloneGrant A (m + 1) c l _ (hr.below hbG) (by omega)).mono ?_
      rintro e w3 ⟨g, rfl, hgl, hb⟩
      replace hgl := hgl.mono hbG.size
      have hbH := hbG.trans (hb.mono hbG.size)
      clear hb
      go_wp2_with fail
      refine (i_DeleteGrant g m (m + 1) p _ l _ w hgl (by omega) (by omega) hbH).mono ?_
      rintro e w4 ⟨rfl, hgl2, hb2⟩
      go_wp2
      go_ret2
      exact RetLC.mk hgl2 (by omega) HB2.out.1 HB2.out.2 hb2
    · have HB2 := Lib.hid (rev_none HB.out hp)
      have hbG := hbF.trans (hb2.mono hbF.size)
      clear hp
      go_wp2
      go_ret2
      exact RetLC.nil HB2.out.1 HB2.out.2 hbG

end Go.Proofs.Ytepegiklnhoobaa
