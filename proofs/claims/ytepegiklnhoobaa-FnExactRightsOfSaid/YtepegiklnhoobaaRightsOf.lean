/- All rights of a role: the reference's list, the program's sorted one. -/
import Derived.Test.YtepegiklnhoobaaRows
import Derived.Test.YtepegiklnhoobaaRightsLaw
import Derived.Test.YtepegiklnhoobaaRightsS
import Derived.Test.YtepegiklnhoobaaNeedI
import Derived.Test.YtepegiklnhoobaaRoleSort
import Derived.Test.YtepegiklnhoobaaRangeR
namespace Go.Proofs.Ytepegiklnhoobaa
set_option linter.unusedVariables false
set_option linter.unusedSimpArgs false
set_option linter.unusedSectionVars false
open Go.RowKit Go.Maps Go.Sort

set_option maxRecDepth 100000 in
set_option maxHeartbeats 4000000 in
theorem S_RightsOf (A1 : Option Addr) (n1 c1 : Nat) (rl : List DRole) (A : Option Addr) (n c : Nat) (l : List DGrant) (nm : ByteArray) (w : World) (hrl : RdRole w A1 n1 rl) (hn1 : n1 ≤ 1048576) (hg1 : ∀ x ∈ rl, x.good) (hs1 : sumRole rl ≤ 1048576)
    (hr : Rd grantE w A n l) (hn : n ≤ 1048576) (hg : ∀ x ∈ l, x.good) (hs : sumGrant l ≤ 1048576) (hz : nm.size ≤ 1048576) :
    Calls Try.prog 51 #[.slice A1 n1 c1, .slice A n c, .string nm] w (RetLC grantE 50 (rightsL rl l nm) (rightsCode rl l nm) w) := by
  have hok := s_l28Ok A1 A n1 c1 n c rl l w hrl hn1 hg1 hs1 hr (by unfold maxLen; omega) hg
  rcases hB : grantsB rl l with _ | _
  · have E := Lib.hid (rights_bad (nm := nm) hB)
    rw [hB] at hok
    clear hB
    go_enter Try.func51, Try.ntmps51
    go_wp2_with fail
    refine hok.mono ?_
    rintro e w1 ⟨rfl, hb1⟩
    clear hok
    go_wp2
    go_ret2
    exact RetLC.nil E.out.1 E.out.2 hb1
  · have HB := Lib.hid hB
    rw [hB] at hok
    clear hB
    rcases fnd_cases rl nm with ⟨hf, _⟩ | ⟨a, x, hf, hx, hnx⟩
    · have E := Lib.hid (rights_none HB.out hf)
      have HF := Lib.hid hf
      clear hf
      go_enter Try.func51, Try.ntmps51
      go_wp2_with fail
      refine hok.mono ?_
      rintro e w1 ⟨rfl, hb1⟩
      have hfnd := s_l28Find A1 n1 c1 rl nm w1 (hrl.below hb1) hn1
      rw [HF.out] at hfnd
      clear hok
      go_wp2_with fail
      refine hfnd.mono ?_
      rintro e w2 ⟨rfl, rfl⟩
      clear hfnd
      go_wp2
      go_ret2
      exact RetLC.nil E.out.1 E.out.2 hb1
    · subst hnx
      have E := Lib.hid (rights_some HB.out hf)
      have HF := Lib.hid hf
      have HX := Lib.hid hx
      clear hf hx
      go_enter Try.func51, Try.ntmps51
      go_wp2_with fail
      refine hok.mono ?_
      rintro e w1 ⟨rfl, hb1⟩
      have hfnd := s_l28Find A1 n1 c1 rl x.name w1 (hrl.below hb1) hn1
      rw [HF.out] at hfnd
      have hri := s_l28Rights A1 n1 c1 rl A n c l a x w1 (hrl.below hb1) hn1 hs1 (hr.below hb1) hn (grants_roles HB.out) (sorted_of_grants HB.out).ok HX.out
      clear hok
      go_wp2_with fail
      refine hfnd.mono ?_
      rintro e w2 ⟨rfl, rfl⟩
      clear hfnd
      go_wp2_with fail
      refine hri.mono ?_
      rintro e w4 ⟨A4, n4, c4, hl4, hn4, ho4, rfl, hb4⟩
      have hgl : GL grantE 50 w.heap.size w4 (.slice A4 n4 c4) (toG x.name (rows rl l a)) := by
        have h0 : GL grantE 50 w1.heap.size w4 (.slice A4 n4 c4) (toG x.name (rows rl l a)) := by
          unfold GL
          rw [hl4]
          exact ho4
        exact h0.mono hb1.size
      have hbF := hb1.trans (hb4.mono hb1.size)
      clear hri ho4 hl4 hb4
      go_wp2
      go_ret2
      exact RetLC.mk hgl hn4 E.out.1 E.out.2 hbF

set_option maxRecDepth 100000 in
set_option maxHeartbeats 4000000 in
theorem I_RightsOf (A1 : Option Addr) (n1 c1 : Nat) (rl : List DRole) (A : Option Addr) (n c : Nat) (l : List DGrant) (nm : ByteArray) (w : World) (hrl : RdRole w A1 n1 rl) (hn1 : n1 ≤ 1048576) (hg1 : ∀ x ∈ rl, x.good) (hs1 : sumRole rl ≤ 1048576)
    (hr : Rd grantE w A n l) (hn : n ≤ 1048576) (hg : ∀ x ∈ l, x.good) (hs : sumGrant l ≤ 1048576) (hz : nm.size ≤ 1048576) :
    Calls Try.prog 52 #[.slice A1 n1 c1, .slice A n c, .string nm] w (RetLC grantE 50 (rightsL rl l nm) (rightsCode rl l nm) w) := by
  have Hl := Lib.hid hr.1
  have hok := I_ValidGrants A1 n1 c1 rl A n c l w hrl hn1 hg1 hs1 hr hn hg hs
  rcases hB : grantsB rl l with _ | _
  · have E := Lib.hid (rights_bad (nm := nm) hB)
    rw [hB] at hok
    clear hB
    go_enter Try.func52, Try.ntmps52
    go_wp2_with fail
    refine hok.mono ?_
    rintro e w1 ⟨rfl, hb1⟩
    clear hok
    go_wp2
    go_ret2
    exact RetLC.nil E.out.1 E.out.2 hb1
  · have HB := Lib.hid hB
    rw [hB] at hok
    clear hB
    rcases fnd_cases rl nm with ⟨hf, _⟩ | ⟨a, x, hf, hx, hnx⟩
    · have E := Lib.hid (rights_none HB.out hf)
      have HF := Lib.hid hf
      clear hf
      go_enter Try.func52, Try.ntmps52
      go_wp2_with fail
      refine hok.mono ?_
      rintro e w1 ⟨rfl, hb1⟩
      have hfnd := i_roleOf A1 n1 c1 rl nm w1 (hrl.below hb1) hn1
      rw [HF.out] at hfnd
      clear hok
      go_wp2_with fail
      refine hfnd.mono ?_
      rintro e w2 ⟨rfl, hb2⟩
      have hb12 := hb1.trans (hb2.mono hb1.size)
      clear hfnd
      go_wp2
      go_ret2
      exact RetLC.nil E.out.1 E.out.2 hb12
    · clear hx hnx x
      have E := Lib.hid (rights_some HB.out hf)
      have HF := Lib.hid hf
      clear hf
      obtain ⟨j0, gi, gz0, gz1, gz2⟩ := info_parts Try.inf_Grant
      have GZ := Lib.hid (And.intro gz0 gz1); clear gz0 gz1
      have HLB : Hid ((rightsT rl a l).length ≤ 3 * n) := Lib.hid (by rw [← Hl.out]; exact rightsT_len (sorted_of_grants HB.out).ok)
      go_enter Try.func52, Try.ntmps52
      go_wp2_with fail
      refine hok.mono ?_
      rintro e w1 ⟨rfl, hb1⟩
      have hfnd := i_roleOf A1 n1 c1 rl nm w1 (hrl.below hb1) hn1
      rw [HF.out] at hfnd
      clear hok
      go_wp2_with fail
      refine hfnd.mono ?_
      rintro e w2 ⟨rfl, hb2⟩
      have hb12 := hb1.trans (hb2.mono hb1.size)
      clear hfnd
      have hgl0 : GL grantE 50 w.heap.size (w2.alloc (.cells #[] 50)) (.slice (some ⟨w2.heap.size, 0, none⟩) 0 0) (toG nm []) := GL.mk0 hb12.size
      have hb3 : Below w.heap.size w (w2.alloc (.cells #[] 50)) := hb12.alloc hb12.size _
      have hri := i_rightsOf A1 n1 c1 rl A n c l a nm _ (hrl.below hb3) hn1 hs1 (hr.below hb3) hn (grants_roles HB.out) (sorted_of_grants HB.out).ok HF.out
      clear hb1 hb2
      go_wp2_with fail
      refine hri.mono ?_
      rintro e w4 ⟨bm, cn, rfl, hm, hb4⟩
      have hgl4 := hgl0.below hb4
      have hbF := hb3.trans (hb4.mono hb3.size)
      have hL := hm.1
      have hms := MetR.start hL
      obtain ⟨gq, hgq⟩ : ∃ gq, w2.heap.size = gq := ⟨_, rfl⟩
      rw [hgq] at hgl4
      have hgm : gq ≠ bm := by
        obtain ⟨es, ck, he, _⟩ := hm.2
        rcases hgl4.own.2.2 with ⟨e0, _⟩ | ⟨g', cap, cur, e0, _, he2, _⟩
        · cases e0
        · cases e0
          intro e
          rw [e, he] at he2
          cases he2
      have hgl4s := (hgl4.lt gq rfl).2
      have hown := hm.2
      have HL := Lib.hid hL
      have HMS := Lib.hid hms
      clear hri hgl0 hb3 hb4 hb12 hL hms hm
      go_wp2_with (first | (at_range; refine wpList_range_own _ rfl _ 86 rfl 89 4 Try.rLaw Try.underlying86 _ bm cn _ rfl hown ?_; intro w5 hrg0 hg0 hs0))
      go_frame
      have hgl5 : GL grantE 50 w.heap.size w5 (.slice (some ⟨gq, 0, none⟩) 0 0) (toG nm []) := hgl4.touch (F := fun _ => False) ⟨hg0.os, hg0.tape, hg0.output, hg0.size, fun k hk _ => hg0.block k hk (by simp)⟩ (fun _ _ h => h)
      have hb5 : Below w.heap.size w w5 := hbF.grown hg0 hbF.size (fun k hk => by cases hk)
      have hgr : gq ≠ w4.heap.size := by omega
      have HBS := Lib.hid hbF.size
      clear hs0 hg0 hgl4 hgl4s
      go_loopw [8] (fun v wr => ∃ (left : Lit → Bool) (cnt : Nat) (ps : List Rt) (g z c' : Nat), wr.ranges Try.prog 89 (plainElem (H := Unit) Try.prog 4) bm w4.heap.size cn (setOf (.lit (.bool true)) ((rightsT rl a l).map keyRt)) left cnt ∧ v = .slice (some ⟨g, 0, none⟩) z c' ∧ GL grantE 50 w.heap.size wr (.slice (some ⟨g, 0, none⟩) z c') (toG nm ps) ∧ Hid (MetR (rightsT rl a l) left ps) ∧ Below w.heap.size w wr ∧ g ≠ bm ∧ g ≠ w4.heap.size) (fun _ wr => wr.rangeLeft bm w4.heap.size)
      case atStart => exact ⟨_, _, [], gq, 0, 0, hrg0, rfl, hgl5, HMS, hb5, hgm, hgr⟩
      case round =>
        clear hgl5 hrg0 hb5 hgm hgr
        obtain ⟨left, cnt, ps, g, z, c', hrg, rfl, hgl, HM, hb, hgm, hgr⟩ := hrel
        have HZ3 : Hid (z ≤ 3 * n) := Lib.hid (by have := HM.out.len; have := HLB.out; have := hgl.len; unfold toG at this; rw [List.length_map] at this; omega)
        go_wp2_with (first | (at_next; refine wpList_next_ranges _ rfl _ rfl 89 Try.rLaw _ rtV (fun v : Value => v) (fun key kl hk => by obtain ⟨p, hp, _⟩ := rt_inv hk; exact ⟨p, hp⟩) (fun v y hv => ⟨v, rfl⟩) bm w4.heap.size cn _ _ _ rfl hrg ?_ ?_))
        · intro hc0 hl0
          have hdone := HM.out.done HL.out hl0
          obtain ⟨d, T, hd1, hd2, hd3, hd4, hd5⟩ := rights_sort (nm := nm) (sorted_of_grants HB.out).ok HM.out.1 hdone
          obtain ⟨hglt, hgb, hH⟩ := hgl.holdsK (enc := gsCells) (fun _ => rfl) hd1
          have hzl := hgl.len
          have hdz : d.length = z := by unfold toG at hzl; rw [List.length_map] at hzl; omega
          have hn48 := HZ3.out
          have hcon := i_sortGrants g c' d wr hH hglt (by omega)
          rw [hdz, hd3] at hcon
          have hTl : (toG nm (rows rl l a)).length = z := by unfold toG; rw [List.length_map]; omega
          have HF1 := Lib.hid (fun q os => hgl.sortedK (enc := gsCells) (fun _ => rfl) (d := T) (l' := toG nm (rows rl l a)) hd4 hTl q os)
          have HF2 := Lib.hid (fun q os => below_sortK (enc := gsCells) hb hgb hglt 3 q T.toArray os)
          clear hdone hd1 hd2 hd3 hd4 hd5 hH hzl hdz hTl hl0 hrg hgl
          go_wp2_with fail
          refine hcon.mono ?_
          rintro e w7 ⟨rfl, q, os, rfl⟩
          have hgl7 := HF1.out q os
          have hb7 := HF2.out q os
          have hgl7' : GL grantE 50 w.heap.size (sortWorldK gsCells 3 wr g 0 q T.toArray os) (.slice (some ⟨g, 0, none⟩) z c') (toG nm (rows rl l a)) := hgl7
          obtain ⟨w8, hw8⟩ : ∃ w8, sortWorldK gsCells 3 wr g 0 q T.toArray os = w8 := ⟨_, rfl⟩
          rw [hw8] at hgl7' hb7 ⊢
          clear hcon hgl7 hw8
          go_wp2
          go_ret2
          exact RetLC.mk hgl7' (by omega) E.out.1 E.out.2 hb7
        · intro o q cb kl yd yp w6 cnt2 hkey hlk hv hat hrg2 hlt hg2 hs2 hen
          obtain ⟨p, ep, hok, rfl⟩ := rt_inv hkey
          obtain rfl : p = (o, q) := by
            unfold rtV at ep
            simp at ep
            exact (Prod.ext ep.1 ep.2).symm
          have HM2 := Lib.hid (HM.out.step HL.out hok hlk)
          have hgl6 := hgl.touch (F := fun k => k = w4.heap.size) ⟨hg2.os, hg2.tape, hg2.output, hg2.size, fun k hk hne => hg2.block k hk (by intro e; cases e; exact hne rfl)⟩ (fun k hk => by cases hk; exact hgr)
          have hb6 := hb.grown hg2 hb.size (fun k hk => by cases hk; exact HBS.out)
          have hlo := (hgl6.lt g rfl)
          have hbm6 := hrg2.owns.lt
          have hr6 := hrg2.lt
          have hz3 := HZ3.out
          have hbz := hb6.size
          have HLT := Lib.hid hlt
          have HRG := Lib.hid hrg
          clear hs2 hlt hrg hkey hlk hv hat hg2 hgl hb ep hok
          unfold rtV at hen
          go_wp2_with (at_builtin; refine wpList_pushO grantE rfl _ _ 39 rfl w.heap.size 50 j0 _ 40 Try.underlying39 gi GZ.out.1 GZ.out.2 gz2 rfl (some ⟨g, 0, none⟩) z c' (toG nm ps) ⟨nm, o, q⟩ rfl ((hgl6.alloc _).alloc _) (w6.heap.size + 1) rfl (range_new' _ _ _ (by simp)) (by omega) (by decide) (by simp; omega) ?_; intro A7 c7 w7 hgl7 ht7 hnew7)
          have hrg7 := ((hrg2.alloc (.cells #[.string o, .int .i64 q] 89)).alloc (.cells #[.string nm, .string o, .int .i64 q] 50)).kept (row := some g) ⟨ht7.os, ht7.tape, ht7.output, ht7.size, fun k hk hne => ht7.block k hk (fun e => hne (by cases e; rfl))⟩ (by intro e; cases e; exact hgm rfl) (by intro e; cases e; exact hgr rfl)
          have hb7 := Below.touch ((hb6.alloc hbz (.cells #[.string o, .int .i64 q] 89)).alloc (by simp; omega) (.cells #[.string nm, .string o, .int .i64 q] 50)) ht7 (fun q hq => by cases hq; exact hlo.1) (by simp; omega)
          obtain ⟨g7, rfl⟩ := hgl7.place (by omega)
          have hg7 := hnew7 g7 rfl
          have hgm7 : g7 ≠ bm := by
            rcases hg7 with h | h
            · cases h; exact hgm
            · simp at h; omega
          have hgr7 : g7 ≠ w4.heap.size := by
            rcases hg7 with h | h
            · cases h; exact hgr
            · simp at h; omega
          rw [← toG_snoc nm ps (o, q)] at hgl7
          first | (refine ⟨⟨_, cnt2, ps ++ [(o, q)], g7, z + 1, c7, hrg7, rfl, hgl7, HM2, hb7, hgm7, hgr7⟩, ?_⟩; (rw [hrg7.left_eq, HRG.out.left_eq]; exact HLT.out)) | (go_roundw; (case rel => first | exact ⟨_, cnt2, ps ++ [(o, q)], g7, z + 1, c7, hrg7, rfl, hgl7, HM2, hb7, hgm7, hgr7⟩ | ((try refine ⟨trivial, ?_⟩); (repeat apply Exists.intro); exact ⟨⟨_, cnt2, ps ++ [(o, q)], g7, z + 1, c7, hrg7, rfl, hgl7, HM2, hb7, hgm7, hgr7⟩, rfl⟩)); (case measure => (rw [hrg7.left_eq, HRG.out.left_eq]; exact HLT.out)))

end Go.Proofs.Ytepegiklnhoobaa
