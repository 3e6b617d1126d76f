/- MergeVersions: both sides. Printed by a program of mine. -/
import Derived.Test.YtfabijhilfjkcaaRows
import Derived.Test.YtfabijhilfjkcaaHistOk
import Derived.Test.YtfabijhilfjkcaaCommon
import Derived.Test.YtfabijhilfjkcaaMergeU
import Derived.Test.YtfabijhilfjkcaaMergeK
import Derived.Test.YtfabijhilfjkcaaAddV
namespace Go.Proofs.Ytfabijhilfjkcaa
set_option linter.unusedVariables false
set_option linter.unusedSimpArgs false
set_option linter.unusedSectionVars false
open Go.RowKit
set_option maxRecDepth 100000

theorem RetVer.later {L : List DVersion} {code : Int} {w w1 w' : World} {e : Ending} (h : RetVer L code w1 e w') (hb : Below w.heap.size w w1) : RetVer L code w e w' := by
  obtain ⟨B, m, q, F, h1, h2, h3, h4, h5⟩ := h
  exact ⟨B, m, q, F, h1, fun k hk => by have := h2 k hk; have := hb.size; omega, h3, h4, hb.trans (h5.mono hb.size)⟩
theorem hist_small {l : List DVersion} (h : OkHist l) : ∀ x ∈ l, x.fState.length ≤ 24 := fun x hx => by
  obtain ⟨k, hk⟩ := List.mem_iff_getElem?.1 hx
  exact (st_mem (h.state hk)).2
theorem stAt_good {l : List DVersion} (hg : ∀ x ∈ l, x.good) (q : Nat) : ∀ s ∈ stAt l q, s.good := fun s hs => by
  unfold stAt at hs
  split at hs
  · cases hs
  · rcases hx : l[q - 1]? with _ | x
    · rw [hx] at hs; cases hs
    · rw [hx] at hs
      exact (hg x (List.mem_of_getElem? hx)).2.2.2.2 s hs
theorem ok3_at {l : List DVersion} (h : OkHist l) (p q r : Nat) : Ok3 (stAt l p) (stAt l q) (stAt l r) :=
  ⟨OkSt.of (h.at p), OkSt.of (h.at q), OkSt.of (h.at r), (st_mem (h.at p)).2, (st_mem (h.at q)).2, (st_mem (h.at r)).2⟩
theorem inV_n {l : List DVersion} {n : Nat} (h : l.length = n) (a : Int) : inV l a = inB a 1 n := by unfold inV; rw [h]
theorem mv_few (l : List DVersion) (a b : Int) (memo : ByteArray) : (mvV l a b memo).1.length ≤ 32 ∧ ∀ x ∈ (mvV l a b memo).1, x.fState.length ≤ 24 := by
  unfold mvV
  split
  · exact ⟨Nat.zero_le _, fun x hx => by cases hx⟩
  · rename_i h1
    split
    · exact ⟨Nat.zero_le _, fun x hx => by cases hx⟩
    · simp only [Bool.not_eq_true', Bool.not_eq_false, Bool.and_eq_true] at h1
      have hO := OkHist.of h1.1
      dsimp only
      split
      · exact ⟨Nat.zero_le _, fun x hx => by cases hx⟩
      · unfold addV
        split
        · exact ⟨Nat.zero_le _, fun x hx => by cases hx⟩
        · have hf := hO.few
          refine ⟨by simp; omega, fun x hx => ?_⟩
          rcases List.mem_append.1 hx with h | h
          · exact hist_small hO x h
          · rw [List.mem_singleton.1 h]
            exact mergeV_len _ _ _

set_option maxHeartbeats 4000000 in
theorem S_MergeVersions (A : Option Addr) (n c : Nat) (l : List DVersion) (a b : Int) (memo : ByteArray) (w : World) (hr : RdVersion w A n l) (hn : n ≤ 1048576) (hg : ∀ x ∈ l, x.good) (ha : -9223372036854775808 ≤ a ∧ a ≤ 9223372036854775807) (hb : -9223372036854775808 ≤ b ∧ b ≤ 9223372036854775807) (hm : memo.size ≤ 1048576) :
    Calls Try.prog 5 #[.slice A n c, .int .i64 a, .int .i64 b, .string memo] w (RetVer (mvV l a b memo).1 (mvV l a b memo).2 w) := by
  have Hl := Lib.hid hr.len
  have HG := Lib.hid hg; clear hg
  go_enter Try.func5, Try.ntmps5
  go_wp2_with fail
  refine (s_l27Ok A n c l w hr (by unfold maxLen; omega) HG.out).mono ?_
  rintro e w1 ⟨rfl, b1⟩
  rcases hh : histB l with _ | _
  · have EM := Lib.hid (mvV_hist (a := a) (b := b) (memo := memo) hh)
    clear hh
    go_wp2
    go_ret2
    exact RetVer.nil (by rw [EM.out]) (by rw [EM.out]) b1
  have HH := Lib.hid hh
  have HO := Lib.hid (OkHist.of hh)
  have n32 : n ≤ 32 := by have h0 := HO.out.few; rw [Hl.out] at h0; exact h0
  clear hh
  go_wp2_with fail
  refine (s_l27Memo memo _ (by unfold maxLen; omega)).mono ?_
  rintro e w2 ⟨rfl, rfl⟩
  rcases hmm : memoB memo with _ | _
  · have EM := Lib.hid (mvV_memo (a := a) (b := b) HH.out hmm)
    clear hmm
    go_wp2
    go_ret2
    exact RetVer.nil (by rw [EM.out]) (by rw [EM.out]) b1
  have HM := Lib.hid hmm
  clear hmm
  go_wp2_with fail
  refine (s_l27Number A n c a _ (by unfold maxLen; omega)).mono ?_
  rintro e w2 ⟨rfl, rfl⟩
  rcases hia : inB a 1 n with _ | _
  · have EM := Lib.hid (mvV_a (b := b) HH.out HM.out ((inV_n Hl.out a).trans hia))
    clear hia
    go_wp2
    go_ret2
    exact RetVer.nil (by rw [EM.out]) (by rw [EM.out]) b1
  have HIA := Lib.hid ((inV_n Hl.out a).trans hia)
  have hia2 := inB_spec hia
  clear hia
  go_wp2_with fail
  refine (s_l27Number A n c b _ (by unfold maxLen; omega)).mono ?_
  rintro e w2 ⟨rfl, rfl⟩
  rcases hib : inB b 1 n with _ | _
  · have EM := Lib.hid (mvV_b HH.out HM.out HIA.out ((inV_n Hl.out b).trans hib))
    clear hib
    go_wp2
    go_ret2
    exact RetVer.nil (by rw [EM.out]) (by rw [EM.out]) b1
  have HIB := Lib.hid ((inV_n Hl.out b).trans hib)
  have hib2 := inB_spec hib
  clear hib
  obtain ⟨p, rfl⟩ : ∃ p : Nat, a = p := ⟨a.toNat, by omega⟩
  obtain ⟨q, rfl⟩ : ∃ q : Nat, b = q := ⟨b.toNat, by omega⟩
  have hp1 : 1 ≤ p := by omega
  have hp2 : p ≤ n := by omega
  have hq1 : 1 ≤ q := by omega
  have hq2 : q ≤ n := by omega
  clear hia2 hib2 ha hb
  have hcm : commonN (parV l) p q ≤ n := by
    have h0 := common_le HO.out (a := p) (b := q) hp1 (by rw [Hl.out]; exact hp2)
    rwa [Hl.out] at h0
  have s1 := b1.size
  go_wp2_with fail
  refine (s_l27Common A n c p q l _ (hr.below b1) HO.out hp1 hp2 hq1 hq2 n32).mono ?_
  rintro e w2 ⟨rfl, b2⟩
  have b12 := b1.trans (b2.mono s1)
  have s2 := b12.size
  clear b1 b2 s1
  go_wp2_with fail
  refine (s_l27StateOf A n c (commonN (parV l) p q) l _ (hr.below b12) hcm n32).mono ?_
  rintro e w3 ⟨B0, k0, d0, rfl, r0, b3⟩
  have b13 := b12.trans (b3.mono s2)
  have s3 := b13.size
  clear b12 b3 s2
  go_wp2_with fail
  refine (s_l27StateOf A n c p l _ (hr.below b13) hp2 n32).mono ?_
  rintro e w4 ⟨B1, k1, d1, rfl, r1, b4⟩
  have b14 := b13.trans (b4.mono s3)
  have s4 := b14.size
  have r0' := r0.below b4
  clear b13 b4 s3 r0
  go_wp2_with fail
  refine (s_l27StateOf A n c q l _ (hr.below b14) hq2 n32).mono ?_
  rintro e w5 ⟨B2, k2, d2, rfl, r2, b5⟩
  have b15 := b14.trans (b5.mono s4)
  have s5 := b15.size
  have r0 := r0'.below b5
  have r1' := r1.below b5
  clear b14 b5 s4 r0' r1
  have HK := Lib.hid (ok3_at HO.out (commonN (parV l) p q) p q)
  have HB0 := Lib.hid (HO.out.at (commonN (parV l) p q))
  have HB1 := Lib.hid (HO.out.at p)
  have HB2 := Lib.hid (HO.out.at q)
  have HG0 := Lib.hid (stAt_good HG.out (commonN (parV l) p q))
  have HG1 := Lib.hid (stAt_good HG.out p)
  have HG2 := Lib.hid (stAt_good HG.out q)
  have HLEN := Lib.hid (mergeV_len (stAt l (commonN (parV l) p q)) (stAt l p) (stAt l q))
  obtain ⟨mv, hmv⟩ : ∃ m, mergeV (stAt l (commonN (parV l) p q)) (stAt l p) (stAt l q) = m := ⟨_, rfl⟩
  have HMV := Lib.hid hmv
  have HMG : Hid (Calls Try.prog 15 #[.slice B0 k0 d0, .slice B1 k1 d1, .slice B2 k2 d2] w5 (RetLC settingE 56 mv.1 mv.2 w5)) := Lib.hid (by
    have h := s_l27Merge B0 B1 B2 k0 d0 k1 d1 k2 d2 _ _ _ w5 r0 r1' r2 HK.out
    try dsimp only at h
    rw [hmv] at h
    exact h)
  rw [hmv] at HLEN
  clear hmv r0 r1' r2 HB0 HB1 HB2 HG0 HG1 HG2
  go_wp2_with fail
  refine HMG.out.mono ?_
  rintro e w6 ⟨A3, n3, c3, hl3, _, ho3, rfl, b6⟩
  have b16 := b15.trans (b6.mono s5)
  have s6 := b16.size
  have h24 : n3 ≤ 24 := by rw [← hl3]; exact HLEN.out
  have HR3 := Lib.hid (Rd.of_own ho3 hl3)
  obtain ⟨st, cd⟩ := mv
  dsimp only at HR3 hl3 ho3
  clear b15 b6 s5 HMG ho3 hl3 HLEN
  by_cases hc0 : cd = 0
  · have EM := Lib.hid (mvV_ok (a := (p : Int)) (b := (q : Int)) HH.out HM.out HIA.out HIB.out (m := (st, cd)) HMV.out hc0)
    subst hc0
    clear HMV
    go_wp2_with fail
    refine (s_l27Add A n c l p memo A3 n3 c3 st _ (hr.below b16) HR3.out n32 (hist_small HO.out) h24).mono ?_
    rintro e w7 h7
    have h8 := h7.later b16
    rw [← EM.out] at h8
    obtain ⟨B, m, q7, F, rfl, g2, g3, g4, g5⟩ := h8
    clear h7
    go_wp2
    go_ret2
    exact ⟨B, m, q7, F, rfl, g2, g3, g4, g5⟩
  · have EM := Lib.hid (mvV_code (a := (p : Int)) (b := (q : Int)) HH.out HM.out HIA.out HIB.out (m := (st, cd)) HMV.out hc0)
    have hne : (cd != 0) = true := by rw [bne_iff_ne]; exact hc0
    clear hc0 HMV
    go_wp2
    go_ret2
    exact RetVer.nil (by rw [EM.out]) (by rw [EM.out]) b16

set_option maxHeartbeats 4000000 in
theorem I_MergeVersions (A : Option Addr) (n c : Nat) (l : List DVersion) (a b : Int) (memo : ByteArray) (w : World) (hr : RdVersion w A n l) (hn : n ≤ 1048576) (hg : ∀ x ∈ l, x.good) (ha : -9223372036854775808 ≤ a ∧ a ≤ 9223372036854775807) (hb : -9223372036854775808 ≤ b ∧ b ≤ 9223372036854775807) (hm : memo.size ≤ 1048576) :
    Calls Try.prog 7 #[.slice A n c, .int .i64 a, .int .i64 b, .string memo] w (RetVer (mvV l a b memo).1 (mvV l a b memo).2 w) := by
  have Hl := Lib.hid hr.len
  have HG := Lib.hid hg; clear hg
  go_enter Try.func7, Try.ntmps7
  go_wp2_with fail
  refine (i_ValidHistory A n c l w hr (by unfold maxLen; omega) HG.out).mono ?_
  rintro e w1 ⟨rfl, b1⟩
  rcases hh : histB l with _ | _
  · have EM := Lib.hid (mvV_hist (a := a) (b := b) (memo := memo) hh)
    clear hh
    go_wp2
    go_ret2
    exact RetVer.nil (by rw [EM.out]) (by rw [EM.out]) b1
  have HH := Lib.hid hh
  have HO := Lib.hid (OkHist.of hh)
  have n32 : n ≤ 32 := by have h0 := HO.out.few; rw [Hl.out] at h0; exact h0
  clear hh
  go_wp2_with fail
  refine (i_isMemo memo _ (by unfold maxLen; omega)).mono ?_
  rintro e w2 ⟨rfl, rfl⟩
  rcases hmm : memoB memo with _ | _
  · have EM := Lib.hid (mvV_memo (a := a) (b := b) HH.out hmm)
    clear hmm
    go_wp2
    go_ret2
    exact RetVer.nil (by rw [EM.out]) (by rw [EM.out]) b1
  have HM := Lib.hid hmm
  clear hmm
  go_wp2_with fail
  refine (i_isVersion A n c a _ (by unfold maxLen; omega) ha.1 ha.2).mono ?_
  rintro e w2 ⟨rfl, rfl⟩
  rcases hia : inB a 1 n with _ | _
  · have EM := Lib.hid (mvV_a (b := b) HH.out HM.out ((inV_n Hl.out a).trans hia))
    clear hia
    go_wp2
    go_ret2
    exact RetVer.nil (by rw [EM.out]) (by rw [EM.out]) b1
  have HIA := Lib.hid ((inV_n Hl.out a).trans hia)
  have hia2 := inB_spec hia
  clear hia
  go_wp2_with fail
  refine (i_isVersion A n c b _ (by unfold maxLen; omega) hb.1 hb.2).mono ?_
  rintro e w2 ⟨rfl, rfl⟩
  rcases hib : inB b 1 n with _ | _
  · have EM := Lib.hid (mvV_b HH.out HM.out HIA.out ((inV_n Hl.out b).trans hib))
    clear hib
    go_wp2
    go_ret2
    exact RetVer.nil (by rw [EM.out]) (by rw [EM.out]) b1
  have HIB := Lib.hid ((inV_n Hl.out b).trans hib)
  have hib2 := inB_spec hib
  clear hib
  obtain ⟨p, rfl⟩ : ∃ p : Nat, a = p := ⟨a.toNat, by omega⟩
  obtain ⟨q, rfl⟩ : ∃ q : Nat, b = q := ⟨b.toNat, by omega⟩
  have hp1 : 1 ≤ p := by omega
  have hp2 : p ≤ n := by omega
  have hq1 : 1 ≤ q := by omega
  have hq2 : q ≤ n := by omega
  clear hia2 hib2 ha hb
  have hcm : commonN (parV l) p q ≤ n := by
    have h0 := common_le HO.out (a := p) (b := q) hp1 (by rw [Hl.out]; exact hp2)
    rwa [Hl.out] at h0
  have s1 := b1.size
  go_wp2_with fail
  refine (i_common A n c p q l _ (hr.below b1) HO.out hp1 hp2 hq1 hq2 n32).mono ?_
  rintro e w2 ⟨rfl, b2⟩
  have b12 := b1.trans (b2.mono s1)
  have s2 := b12.size
  clear b1 b2 s1
  go_wp2_with fail
  refine (i_stateOf A n c (commonN (parV l) p q) l _ (hr.below b12) hcm n32).mono ?_
  rintro e w3 ⟨B0, k0, d0, rfl, r0, b3⟩
  have b13 := b12.trans (b3.mono s2)
  have s3 := b13.size
  clear b12 b3 s2
  go_wp2_with fail
  refine (i_stateOf A n c p l _ (hr.below b13) hp2 n32).mono ?_
  rintro e w4 ⟨B1, k1, d1, rfl, r1, b4⟩
  have b14 := b13.trans (b4.mono s3)
  have s4 := b14.size
  have r0' := r0.below b4
  clear b13 b4 s3 r0
  go_wp2_with fail
  refine (i_stateOf A n c q l _ (hr.below b14) hq2 n32).mono ?_
  rintro e w5 ⟨B2, k2, d2, rfl, r2, b5⟩
  have b15 := b14.trans (b5.mono s4)
  have s5 := b15.size
  have r0 := r0'.below b5
  have r1' := r1.below b5
  clear b14 b5 s4 r0' r1
  have HK := Lib.hid (ok3_at HO.out (commonN (parV l) p q) p q)
  have HB0 := Lib.hid (HO.out.at (commonN (parV l) p q))
  have HB1 := Lib.hid (HO.out.at p)
  have HB2 := Lib.hid (HO.out.at q)
  have HG0 := Lib.hid (stAt_good HG.out (commonN (parV l) p q))
  have HG1 := Lib.hid (stAt_good HG.out p)
  have HG2 := Lib.hid (stAt_good HG.out q)
  have HLEN := Lib.hid (mergeV_len (stAt l (commonN (parV l) p q)) (stAt l p) (stAt l q))
  obtain ⟨mv, hmv⟩ : ∃ m, mergeV (stAt l (commonN (parV l) p q)) (stAt l p) (stAt l q) = m := ⟨_, rfl⟩
  have HMV := Lib.hid hmv
  have HMG : Hid (Calls Try.prog 23 #[.slice B0 k0 d0, .slice B1 k1 d1, .slice B2 k2 d2] w5 (RetLC settingE 56 mv.1 mv.2 w5)) := Lib.hid (by
    have h := i_MergeStates ⟨B0, k0, d0, stAt l (commonN (parV l) p q)⟩ ⟨B1, k1, d1, stAt l p⟩ ⟨B2, k2, d2, stAt l q⟩ w5 r0 r1' r2 HK.out HB0.out HB1.out HB2.out HG0.out HG1.out HG2.out
    try dsimp only at h
    rw [hmv] at h
    exact h)
  rw [hmv] at HLEN
  clear hmv r0 r1' r2 HB0 HB1 HB2 HG0 HG1 HG2
  go_wp2_with fail
  refine HMG.out.mono ?_
  rintro e w6 ⟨A3, n3, c3, hl3, _, ho3, rfl, b6⟩
  have b16 := b15.trans (b6.mono s5)
  have s6 := b16.size
  have h24 : n3 ≤ 24 := by rw [← hl3]; exact HLEN.out
  have HR3 := Lib.hid (Rd.of_own ho3 hl3)
  obtain ⟨st, cd⟩ := mv
  dsimp only at HR3 hl3 ho3
  clear b15 b6 s5 HMG ho3 hl3 HLEN
  by_cases hc0 : cd = 0
  · have EM := Lib.hid (mvV_ok (a := (p : Int)) (b := (q : Int)) HH.out HM.out HIA.out HIB.out (m := (st, cd)) HMV.out hc0)
    subst hc0
    clear HMV
    go_wp2_with fail
    refine (i_commit A n c l p memo A3 n3 c3 st _ (hr.below b16) HR3.out n32 (hist_small HO.out) h24).mono ?_
    rintro e w7 h7
    have h8 := h7.later b16
    rw [← EM.out] at h8
    obtain ⟨B, m, q7, F, rfl, g2, g3, g4, g5⟩ := h8
    clear h7
    go_wp2
    go_ret2
    exact ⟨B, m, q7, F, rfl, g2, g3, g4, g5⟩
  · have EM := Lib.hid (mvV_code (a := (p : Int)) (b := (q : Int)) HH.out HM.out HIA.out HIB.out (m := (st, cd)) HMV.out hc0)
    have hne : (cd != 0) = true := by rw [bne_iff_ne]; exact hc0
    clear hc0 HMV
    go_wp2
    go_ret2
    exact RetVer.nil (by rw [EM.out]) (by rw [EM.out]) b16

end Go.Proofs.Ytfabijhilfjkcaa
