/- How often each line comes in. -/
import Derived.Test.YtbblkmnafdmcdaaRows
import Derived.Test.YtbblkmnafdmcdaaSort
import Derived.Test.YtbblkmnafdmcdaaTwo
import Derived.Test.YtbblkmnafdmcdaaCountLaw
namespace Go.Proofs.Ytbblkmnafdmcdaa
set_option linter.unusedVariables false
set_option linter.unusedSimpArgs false
set_option linter.unusedSectionVars false
open Go.RowKit

def countU (l : List ByteArray) : List ByteArray := if repB l then uniqB (sortB l) else []
def countC (l : List ByteArray) : List Int := if repB l then cntL (uniqB (sortB l)) l else []
theorem Try.info_i64 : (Try.prog.info? 2).map (fun i => (i.zero, i.size, i.bytes)) = some (some (.int .i64 0), 1, 8) := by kernel_rfl

set_option maxRecDepth 100000 in
set_option maxHeartbeats 8000000 in
theorem S_CountLines (A : Option Addr) (n c : Nat) (l : List ByteArray) (w : World) (hr : Rd strE w A n l) (hn : n ≤ 1048576) (hg : ∀ x ∈ l, x.size ≤ maxLen) (hsum : sumS l ≤ 1048576) :
    Calls Try.prog 24 #[.slice A n c] w (RetLLC strE 9 (countU l) intE 2 (countC l) (repCode l) w) := by
  obtain ⟨i0, hi, hz0, hz1, hz2⟩ := info_parts Try.info_str
  obtain ⟨j0, gi, gz0, gz1, gz2⟩ := info_parts Try.info_i64
  have HZ := Lib.hid (And.intro hz0 hz1); clear hz0 hz1
  have GZ := Lib.hid (And.intro gz0 gz1); clear gz0 gz1
  have Hl := Lib.hid hr.1
  go_enter Try.func24, Try.ntmps24
  go_wp2_with fail
  refine (s_l30Ok A n c l _ hr (by unfold maxLen; omega) hg).mono ?_
  rintro e w1 ⟨rfl, hE⟩
  have hb1 : Below w.heap.size w w1 := hE ▸ Below.refl _ _
  clear hE
  rcases hB : repB l with _ | _
  · have E0 : Hid (countU l = []) := Lib.hid (by unfold countU; rw [hB]; rfl)
    have E1 : Hid (countC l = []) := Lib.hid (by unfold countC; rw [hB]; rfl)
    have E2 : Hid (repCode l = 1) := Lib.hid (by unfold repCode; rw [hB]; rfl)
    clear hB
    go_wp2
    go_ret3
    exact RetLLC.nil E0.out E1.out E2.out hb1
  · have E0 : Hid (countU l = uniqB (sortB l)) := Lib.hid (by unfold countU; rw [hB]; rfl)
    have E1 : Hid (countC l = cntL (uniqB (sortB l)) l) := Lib.hid (by unfold countC; rw [hB]; rfl)
    have E2 : Hid (repCode l = 0) := Lib.hid (by unfold repCode; rw [hB]; rfl)
    have hn2 := rep_le hB
    rw [Hl.out] at hn2
    clear hB
    go_wp2_with fail
    refine (s_l30Sorted A n c l _ (hr.below hb1) (by omega)).mono ?_
    rintro e w2 ⟨A5, n5, c5, hl5, hn5, ho5, rfl, hb2⟩
    obtain rfl : n = n5 := by rw [← hl5, sortB_length, Hl.out]
    have hT : GL strE 9 w1.heap.size w2 (.slice A5 n c5) (sortB l) := by unfold GL; rw [hl5]; exact ho5
    replace hT := hT.mono hb1.size
    replace hb1 := hb1.trans (hb2.mono hb1.size)
    have hz2' := hb1.size
    have HS := Lib.hid (sortB_sorted l)
    have HP := Lib.hid (sortB_perm l)
    obtain ⟨S, hS⟩ : ∃ S, S = sortB l := ⟨_, rfl⟩
    rw [← hS] at hT HS HP E0 E1 hl5
    clear ho5 hb2 hS
    obtain ⟨W, hW⟩ : ∃ W, (w2.alloc (.cells #[] 9)).alloc (.cells #[] 2) = W := ⟨_, rfl⟩
    have hT0 : GL strE 9 w.heap.size W (.slice A5 n c5) S := hW ▸ (hT.alloc _).alloc _
    have hU0 : GL strE 9 w.heap.size W (.slice (some ⟨w2.heap.size, 0, none⟩) 0 0) [] := hW ▸ ((GL.mk0 hz2').alloc _)
    have hM0 : GL intE 2 w.heap.size W (.slice (some ⟨w2.heap.size + 1, 0, none⟩) 0 0) [] := by
      have := GL.mk0 (E := intE) (et := 2) (base := w.heap.size) (w := w2.alloc (.cells #[] 9)) (by simp; omega)
      rw [hW] at this
      simpa using this
    have hb0 : Below w.heap.size w W := hW ▸ ((hb1.alloc hz2' _).alloc (by simp; omega) _)
    have hTU0 : Apart (.slice A5 n c5) (.slice (some ⟨w2.heap.size, 0, none⟩) 0 0) := Apart.new hT (fun k hk => by have h : w2.heap.size = k := Option.some.inj hk; omega)
    have hTM0 : Apart (.slice A5 n c5) (.slice (some ⟨w2.heap.size + 1, 0, none⟩) 0 0) := Apart.new hT (fun k hk => by have h : w2.heap.size + 1 = k := Option.some.inj hk; omega)
    have hUM0 : Apart (.slice (some ⟨w2.heap.size, 0, none⟩) 0 0) (.slice (some ⟨w2.heap.size + 1, 0, none⟩) 0 0) := fun k h1 h2 => by have h3 : w2.heap.size = k := Option.some.inj h1; have h4 : w2.heap.size + 1 = k := Option.some.inj h2; omega
    go_wp2_with fail
    try rw [hW]
    clear hW hT hb1
    go_loopw [6, 7, 8] (fun u m i wr => ∃ (k z : Nat) (r : List ByteArray) (t : List Int) (UA MA : Option Addr) (Uc Mc : Nat), k ≤ n ∧ u = .slice UA z Uc ∧ m = .slice MA z Mc ∧ i = .int .i64 k ∧ GL strE 9 w.heap.size wr (.slice UA z Uc) r ∧ GL intE 2 w.heap.size wr (.slice MA z Mc) t ∧ GL strE 9 w.heap.size wr (.slice A5 n c5) S ∧ Below w.heap.size w wr ∧ Apart (.slice A5 n c5) (.slice UA z Uc) ∧ Apart (.slice A5 n c5) (.slice MA z Mc) ∧ Apart (.slice UA z Uc) (.slice MA z Mc) ∧ Hid (r = uniqTo S k ∧ t = cntL r (S.take k))) (fun _ _ i _ => n - (intOf i).toNat)
    case atStart => exact ⟨0, 0, [], [], _, _, _, _, Nat.zero_le _, rfl, rfl, rfl, hU0, hM0, hT0, hb0, hTU0, hTM0, hUM0, Lib.hid ⟨rfl, rfl⟩⟩
    case round =>
      obtain ⟨k, z, r, t, UA, MA, Uc, Mc, hk, rfl, rfl, rfl, hU, hM, hT, hb, hTU, hTM, hUM, HR⟩ := hrel
      have hzr := hU.len
      have hzk : z ≤ k := by rw [← hzr, HR.out.1]; exact uniq_len
      by_cases hlt : k < n
      · obtain ⟨g5, rfl⟩ := hT.place (by omega)
        obtain ⟨x, hx⟩ : ∃ x, S[k]? = some x := ⟨_, List.getElem?_eq_getElem (by omega)⟩
        have hc0 := hT.cellS hx
        have hUd : ∀ m, GL strE 9 w.heap.size (wr.drewN m) (.slice UA z Uc) r := fun m => hU
        have hMd : ∀ m, GL intE 2 w.heap.size (wr.drewN m) (.slice MA z Mc) t := fun m => hM
        have hTd : ∀ m, GL strE 9 w.heap.size (wr.drewN m) (.slice (some ⟨g5, 0, none⟩) n c5) S := fun m => hT
        have hbd : ∀ m, Below w.heap.size w (wr.drewN m) := fun m => below_drewN hb m
        rcases k with _ | j
        · have HN := Lib.hid (count_new HS.out hx HR.out.1 HR.out.2 hzr (uniqTo_first hx) (by simp))
          go_wp2_with fail
          go_quiet (fail)
          obtain ⟨wq, hwq⟩ : ∃ wq, wr.drewN nq = wq := ⟨_, rfl⟩
          replace hU : GL strE 9 w.heap.size wq (.slice UA z Uc) r := hwq ▸ hUd _
          replace hM : GL intE 2 w.heap.size wq (.slice MA z Mc) t := hwq ▸ hMd _
          replace hT : GL strE 9 w.heap.size wq (.slice (some ⟨g5, 0, none⟩) n c5) S := hwq ▸ hTd _
          replace hb : Below w.heap.size w wq := hwq ▸ hbd _
          have hcx := hT.cellS hx
          rw [hwq]
          clear hwq hUd hMd hTd hbd hc0
          have hbz := hb.size
          go_wp2_with (first
            | (at_builtin; refine wpList_pushO strE rfl _ _ 22 rfl w.heap.size 9 i0 _ 16 Try.underlying22 hi HZ.out.1 HZ.out.2 hz2 rfl UA z Uc r x rfl (hU.alloc _) wq.heap.size rfl (range_new _ _ _) (by omega) (by decide) (by simp; omega) ?_; intro U2 Uc2 w3 hU3 ht3 hn3
               have hM3 := (hM.alloc (.cells #[.string x] 9)).touchO ht3 hUM.symm
               have hT3 := (hT.alloc (.cells #[.string x] 9)).touchO ht3 hTU
               have hb3 := Below.touch (hb.alloc (by omega) (.cells #[.string x] 9)) ht3 (fun k hk => (hU.lt k hk).1) (by simp; omega)
               have hTU3 := Apart.grow (hT.alloc (.cells #[.string x] 9)) hTU hn3
               have hUM3 := (Apart.grow (hM.alloc (.cells #[.string x] 9)) hUM.symm hn3).symm
               have hz3 := hb3.size
               clear hn3 ht3)
            | (at_builtin; refine wpList_pushO intE rfl _ _ 32 rfl w.heap.size 2 j0 _ 8 Try.underlying32 gi GZ.out.1 GZ.out.2 gz2 rfl MA z Mc t 0 rfl (hM3.alloc _) w3.heap.size rfl (range_new _ _ _) (by omega) (by decide) (by simp; omega) ?_; intro M2 Mc2 w4 hM4 ht4 hn4
               have hU4 := (hU3.alloc (.cells #[.int .i64 0] 2)).touchO ht4 hUM3
               have hT4 := (hT3.alloc (.cells #[.int .i64 0] 2)).touchO ht4 hTM
               have hb4 := Below.touch (hb3.alloc (by omega) (.cells #[.int .i64 0] 2)) ht4 (fun k hk => (hM3.lt k hk).1) (by simp; omega)
               have hTM4 := Apart.grow (hT3.alloc (.cells #[.int .i64 0] 2)) hTM hn4
               have hUM4 := Apart.grow (hU3.alloc (.cells #[.int .i64 0] 2)) hUM3 hn4
               clear hn4 ht4
               obtain ⟨gm, rfl⟩ := hM4.place (by omega)
               have hcm : w4.cell? ⟨gm, z, none⟩ = some (.int .i64 0) := hM4.cellI (by have := hM.len; simp [← this])
               have hfm := hM4.free z
               have hM5 := hM4.setI (j := z) (by omega) 1
               have htm : Touch (fun k => Value.ownBlock (.slice (some ⟨gm, 0, none⟩) (z + 1) Mc2) = some k) w4 (w4.setCell ⟨gm, z, none⟩ (.int .i64 1)) := touch_own _ _ _ _ _ _
               have hU5 := hU4.touchO htm hUM4
               have hT5 := hT4.touchO htm hTM4
               have hb5 := hb4.setCell (p := ⟨gm, z, none⟩) hM4.baseLe (.int .i64 1)
               clear htm hU3 hM3 hT3 hb3 hU hM hT hb hM4 hT4 hb4 hU4 hUM hTU))
          first | (refine ⟨⟨0 + 1, z + 1, r ++ [x], (t ++ [0]).set z 1, U2, some ⟨gm, 0, none⟩, Uc2, Mc2, by omega, rfl, rfl, by simp, hU5, hM5, hT5, hb5, hTU3, hTM4, hUM4, HN⟩, ?_⟩; (simp [intOf]; omega)) | (go_roundw; (case rel => first | exact ⟨0 + 1, z + 1, r ++ [x], (t ++ [0]).set z 1, U2, some ⟨gm, 0, none⟩, Uc2, Mc2, by omega, rfl, rfl, by simp, hU5, hM5, hT5, hb5, hTU3, hTM4, hUM4, HN⟩ | ((try refine ⟨trivial, ?_⟩); (repeat apply Exists.intro); exact ⟨⟨0 + 1, z + 1, r ++ [x], (t ++ [0]).set z 1, U2, some ⟨gm, 0, none⟩, Uc2, Mc2, by omega, rfl, rfl, by simp, hU5, hM5, hT5, hb5, hTU3, hTM4, hUM4, HN⟩, rfl⟩)); (case measure => (simp [intOf]; omega)))
        · obtain ⟨p, hp⟩ : ∃ p, S[j]? = some p := ⟨_, List.getElem?_eq_getElem (by omega)⟩
          have hc1 := hT.cellS hp
          have hj0 : ((j : Int) + 1 == 0) = false := by rw [beq_eq_false_iff_ne]; omega
          rcases he : (x.toList == p.toList) with _ | _
          · have hne : ¬ x = p := by rw [eqS_iff, decide_eq_false_iff_not] at he; exact he
            have HN := Lib.hid (count_new HS.out hx HR.out.1 HR.out.2 hzr (uniqTo_new hx hp hne) (sorted_fresh HS.out hx hp hne))
            go_wp2_with fail
            go_quiet (fail)
            obtain ⟨wq, hwq⟩ : ∃ wq, wr.drewN nq = wq := ⟨_, rfl⟩
            replace hU : GL strE 9 w.heap.size wq (.slice UA z Uc) r := hwq ▸ hUd _
            replace hM : GL intE 2 w.heap.size wq (.slice MA z Mc) t := hwq ▸ hMd _
            replace hT : GL strE 9 w.heap.size wq (.slice (some ⟨g5, 0, none⟩) n c5) S := hwq ▸ hTd _
            replace hb : Below w.heap.size w wq := hwq ▸ hbd _
            have hcx := hT.cellS hx
            rw [hwq]
            clear hwq hUd hMd hTd hbd hc0
            have hbz := hb.size
            go_wp2_with (first
              | (at_builtin; refine wpList_pushO strE rfl _ _ 22 rfl w.heap.size 9 i0 _ 16 Try.underlying22 hi HZ.out.1 HZ.out.2 hz2 rfl UA z Uc r x rfl (hU.alloc _) wq.heap.size rfl (range_new _ _ _) (by omega) (by decide) (by simp; omega) ?_; intro U2 Uc2 w3 hU3 ht3 hn3
                 have hM3 := (hM.alloc (.cells #[.string x] 9)).touchO ht3 hUM.symm
                 have hT3 := (hT.alloc (.cells #[.string x] 9)).touchO ht3 hTU
                 have hb3 := Below.touch (hb.alloc (by omega) (.cells #[.string x] 9)) ht3 (fun k hk => (hU.lt k hk).1) (by simp; omega)
                 have hTU3 := Apart.grow (hT.alloc (.cells #[.string x] 9)) hTU hn3
                 have hUM3 := (Apart.grow (hM.alloc (.cells #[.string x] 9)) hUM.symm hn3).symm
                 have hz3 := hb3.size
                 clear hn3 ht3)
              | (at_builtin; refine wpList_pushO intE rfl _ _ 32 rfl w.heap.size 2 j0 _ 8 Try.underlying32 gi GZ.out.1 GZ.out.2 gz2 rfl MA z Mc t 0 rfl (hM3.alloc _) w3.heap.size rfl (range_new _ _ _) (by omega) (by decide) (by simp; omega) ?_; intro M2 Mc2 w4 hM4 ht4 hn4
                 have hU4 := (hU3.alloc (.cells #[.int .i64 0] 2)).touchO ht4 hUM3
                 have hT4 := (hT3.alloc (.cells #[.int .i64 0] 2)).touchO ht4 hTM
                 have hb4 := Below.touch (hb3.alloc (by omega) (.cells #[.int .i64 0] 2)) ht4 (fun k hk => (hM3.lt k hk).1) (by simp; omega)
                 have hTM4 := Apart.grow (hT3.alloc (.cells #[.int .i64 0] 2)) hTM hn4
                 have hUM4 := Apart.grow (hU3.alloc (.cells #[.int .i64 0] 2)) hUM3 hn4
                 clear hn4 ht4
                 obtain ⟨gm, rfl⟩ := hM4.place (by omega)
                 have hcm : w4.cell? ⟨gm, z, none⟩ = some (.int .i64 0) := hM4.cellI (by have := hM.len; simp [← this])
                 have hfm := hM4.free z
                 have hM5 := hM4.setI (j := z) (by omega) 1
                 have htm : Touch (fun k => Value.ownBlock (.slice (some ⟨gm, 0, none⟩) (z + 1) Mc2) = some k) w4 (w4.setCell ⟨gm, z, none⟩ (.int .i64 1)) := touch_own _ _ _ _ _ _
                 have hU5 := hU4.touchO htm hUM4
                 have hT5 := hT4.touchO htm hTM4
                 have hb5 := hb4.setCell (p := ⟨gm, z, none⟩) hM4.baseLe (.int .i64 1)
                 clear htm hU3 hM3 hT3 hb3 hU hM hT hb hM4 hT4 hb4 hU4 hUM hTU))
            first | (refine ⟨⟨j + 1 + 1, z + 1, r ++ [x], (t ++ [0]).set z 1, U2, some ⟨gm, 0, none⟩, Uc2, Mc2, by omega, rfl, rfl, by simp, hU5, hM5, hT5, hb5, hTU3, hTM4, hUM4, HN⟩, ?_⟩; (simp [intOf]; omega)) | (go_roundw; (case rel => first | exact ⟨j + 1 + 1, z + 1, r ++ [x], (t ++ [0]).set z 1, U2, some ⟨gm, 0, none⟩, Uc2, Mc2, by omega, rfl, rfl, by simp, hU5, hM5, hT5, hb5, hTU3, hTM4, hUM4, HN⟩ | ((try refine ⟨trivial, ?_⟩); (repeat apply Exists.intro); exact ⟨⟨j + 1 + 1, z + 1, r ++ [x], (t ++ [0]).set z 1, U2, some ⟨gm, 0, none⟩, Uc2, Mc2, by omega, rfl, rfl, by simp, hU5, hM5, hT5, hb5, hTU3, hTM4, hUM4, HN⟩, rfl⟩)); (case measure => (simp [intOf]; omega)))
          · have hne : x = p := by rw [eqS_iff, decide_eq_true_eq] at he; exact he
            obtain ⟨q, v, hzq, hv, hvk, hs⟩ := count_same HS.out hx hp hne HR.out.1 HR.out.2 hzr
            have HN := Lib.hid hs; clear hs
            subst hzq
            obtain ⟨gm, rfl⟩ := hM.place (by omega)
            have hcm := hM.cellI hv
            have hfm := hM.free q
            have hM5 := fun m => (hMd m).setI (j := q) (by omega) ((v : Int) + 1)
            have htm : ∀ m, Touch (fun k => Value.ownBlock (.slice (some ⟨gm, 0, none⟩) (q + 1) Mc) = some k) (wr.drewN m) ((wr.drewN m).setCell ⟨gm, q, none⟩ (.int .i64 ((v : Int) + 1))) := fun m => touch_own _ _ _ _ _ _
            have hU5 := fun m => (hUd m).touchO (htm m) hUM
            have hT5 := fun m => (hTd m).touchO (htm m) hTM
            have hb5 := fun m => (hbd m).setCell (p := ⟨gm, q, none⟩) hM.baseLe (.int .i64 ((v : Int) + 1))
            clear htm hUd hMd hTd hbd hv
            go_wp2_with fail
            go_quiet (fail)
            go_wp2
            first | (refine ⟨⟨j + 1 + 1, q + 1, r, t.set q ((v : Int) + 1), UA, some ⟨gm, 0, none⟩, Uc, Mc, by omega, rfl, rfl, by simp, hU5 _, hM5 _, hT5 _, hb5 _, hTU, hTM, hUM, HN⟩, ?_⟩; (simp [intOf]; omega)) | (go_roundw; (case rel => first | exact ⟨j + 1 + 1, q + 1, r, t.set q ((v : Int) + 1), UA, some ⟨gm, 0, none⟩, Uc, Mc, by omega, rfl, rfl, by simp, hU5 _, hM5 _, hT5 _, hb5 _, hTU, hTM, hUM, HN⟩ | ((try refine ⟨trivial, ?_⟩); (repeat apply Exists.intro); exact ⟨⟨j + 1 + 1, q + 1, r, t.set q ((v : Int) + 1), UA, some ⟨gm, 0, none⟩, Uc, Mc, by omega, rfl, rfl, by simp, hU5 _, hM5 _, hT5 _, hb5 _, hTU, hTM, hUM, HN⟩, rfl⟩)); (case measure => (simp [intOf]; omega)))
      · obtain rfl : k = n := by omega
        have F0 : Hid (countU l = r) := Lib.hid (by rw [E0.out, HR.out.1]; unfold uniqB; rw [hl5])
        have F1 : Hid (countC l = t) := Lib.hid (by
          rw [E1.out, HR.out.2, HR.out.1]
          unfold uniqB
          rw [hl5, List.take_of_length_le (by omega)]
          exact cntL_perm _ HP.out.symm)
        go_wp2
        go_ret3
        exact RetLLC.mk hU hM (by omega) (by omega) hUM F0.out F1.out E2.out hb

open Go.Sort in
theorem i_compactS (g n c base : Nat) (S : List ByteArray) (w w0 : World) (hgl : GL strE 9 base w (.slice (some ⟨g, 0, none⟩) n c) S) (hn : n ≤ 4194304) (hb : Below base w0 w) :
    Calls Try.prog 48 #[.slice (some ⟨g, 0, none⟩) n c] w fun e w' => e = .returned (.slice (some ⟨g, 0, none⟩) (uniqB S).length c) ∧ GL strE 9 base w' (.slice (some ⟨g, 0, none⟩) (uniqB S).length c) (uniqB S) ∧ Below base w0 w' := by
  have hlen := hgl.len
  have h0 : w.ownsRow base 9 1 (.slice (some ⟨g, 0, none⟩) n c) n ((S.map fun s => s.data.toList).map encStr) := by rw [enc_flat]; exact hgl.own.2
  obtain ⟨g', c', e', hbg, hgs, hnc, hcm, hl, hH⟩ := Lib.holds_of_ownsRow h0 (by simp)
  cases e'
  have h1 := Try.slices_Compact_string g 0 c (S.map fun s => s.data.toList) w hH (by simp; omega) (by rw [hl]; exact hnc)
  rw [hl, compact_uniqB, List.length_map] at h1
  refine h1.mono ?_
  rintro e w' ⟨rfl, k, rfl⟩
  have hu : (uniqB S).length ≤ n := by rw [← hlen]; exact uniq_len
  have h2 := Lib.ownsRow_putRow (q := k) (k := (uniqB S).length) (ys := ((uniqB S).map fun s => s.data.toList) ++ List.replicate (n - (uniqB S).length) []) h0 (by simp; omega) hu
  rw [List.take_left' (by simp), enc_flat] at h2
  exact ⟨rfl, h2, Lib.below_putRow hb hbg⟩
theorem i_sortedSet (g n c base : Nat) (l : List ByteArray) (w w0 : World) (hgl : GL strE 9 base w (.slice (some ⟨g, 0, none⟩) n c) l) (hn : n ≤ 4194304) (hb : Below base w0 w) :
    Calls Try.prog 39 #[.slice (some ⟨g, 0, none⟩) n c] w fun e w' => e = .returned (.slice (some ⟨g, 0, none⟩) (uniqB (sortB l)).length c) ∧ GL strE 9 base w' (.slice (some ⟨g, 0, none⟩) (uniqB (sortB l)).length c) (uniqB (sortB l)) ∧ Below base w0 w' := by
  go_enter Try.func39, Try.ntmps39
  go_wp2_with fail
  refine (i_sortS g n c base l _ w0 hgl hn hb).mono ?_
  rintro e w1 ⟨rfl, hgl1, hb1⟩
  go_wp2_with fail
  refine (i_compactS g n c base _ _ w0 hgl1 hn hb1).mono ?_
  rintro e w2 ⟨rfl, hgl2, hb2⟩
  go_wp2
  go_ret
  exact ⟨rfl, hgl2, hb2⟩

theorem GL.zeros (w : World) (et : TypeId) (n : Nat) (hn : n ≤ maxLen) (base : Nat) (hb : base ≤ w.heap.size) : GL intE et base (w.alloc (.cells (madeCells #[.int .i64 0] n) et)) (.slice (some ⟨w.heap.size, 0, none⟩) n n) (List.replicate n 0) := by
  have h := toList_madeCells intE (z := #[.int .i64 0]) (x := 0) rfl n
  rw [show n * intE.k = n from Nat.mul_one _] at h
  unfold GL
  rw [List.length_replicate]
  refine ⟨by rw [flat_len, List.length_replicate], .inr ⟨w.heap.size, n, madeCells #[.int .i64 0] n, rfl, hb, heap_alloc_new w _, Nat.le_refl _, hn, ?_, ?_⟩⟩
  · rw [size_madeCells, show n * intE.k = n from Nat.mul_one _]
  · rw [h, List.take_of_length_le (by rw [flat_len, List.length_replicate]; exact Nat.le_refl _)]
set_option maxRecDepth 100000 in
set_option maxHeartbeats 4000000 in
theorem I_CountLines (A : Option Addr) (n c : Nat) (l : List ByteArray) (w : World) (hr : Rd strE w A n l) (hn : n ≤ 1048576) (hg : ∀ x ∈ l, x.size ≤ maxLen) (hsum : sumS l ≤ 1048576) :
    Calls Try.prog 25 #[.slice A n c] w (RetLLC strE 9 (countU l) intE 2 (countC l) (repCode l) w) := by
  have Hl := Lib.hid hr.1
  go_enter Try.func25, Try.ntmps25
  go_wp2_with fail
  refine (i_ValidReport A n c l _ hr (by unfold maxLen; omega) hg).mono ?_
  rintro e w1 ⟨rfl, hE⟩
  have hb1 : Below w.heap.size w w1 := hE ▸ Below.refl _ _
  clear hE
  rcases hB : repB l with _ | _
  · have E0 : Hid (countU l = []) := Lib.hid (by unfold countU; rw [hB]; rfl)
    have E1 : Hid (countC l = []) := Lib.hid (by unfold countC; rw [hB]; rfl)
    have E2 : Hid (repCode l = 1) := Lib.hid (by unfold repCode; rw [hB]; rfl)
    clear hB
    go_wp2
    go_ret3
    exact RetLLC.nil E0.out E1.out E2.out hb1
  · have E0 : Hid (countU l = uniqB (sortB l)) := Lib.hid (by unfold countU; rw [hB]; rfl)
    have E1 : Hid (countC l = cntL (uniqB (sortB l)) l) := Lib.hid (by unfold countC; rw [hB]; rfl)
    have E2 : Hid (repCode l = 0) := Lib.hid (by unfold repCode; rw [hB]; rfl)
    have hn2 := rep_le hB
    rw [Hl.out] at hn2
    clear hB
    go_wp2_with fail
    refine (i_cloneS A n c l _ (hr.below hb1) (by omega)).mono ?_
    rintro e w3 ⟨g, rfl, hgl, hb⟩
    replace hgl := hgl.mono hb1.size
    replace hb1 := hb1.trans (hb.mono hb1.size); clear hb
    go_wp2_with fail
    refine (i_sortedSet g n n _ l _ w hgl (by omega) hb1).mono ?_
    rintro e w4 ⟨rfl, hU, hb2⟩
    clear hgl hb1
    have hz4 := hb2.size
    have HM : Hid (∀ x ∈ l, x ∈ uniqB (sortB l)) := Lib.hid (fun x hx => by
      unfold uniqB
      rw [uniq_mem (Nat.le_refl _), List.take_length]
      exact (sortB_perm l).mem_iff.2 hx)
    have HN := Lib.hid (uniq_nodup (sortB_sorted l) (k := (sortB l).length) (Nat.le_refl _))
    have hmn : (uniqB (sortB l)).length ≤ n := by rw [← Hl.out, ← sortB_length l]; exact uniq_len
    obtain ⟨U, hUe⟩ : ∃ U, U = uniqB (sortB l) := ⟨_, rfl⟩
    rw [show uniqTo (sortB l) (sortB l).length = U from hUe.symm] at HN
    rw [← hUe] at hU HM hmn E0 E1 ⊢
    obtain ⟨m, hm⟩ : ∃ m, U.length = m := ⟨_, rfl⟩
    rw [hm] at hU hmn ⊢
    clear hUe
    have hmk := fun W => run_make_row' (P := Try.prog) 32 2 (.int .i64 0) 8 Try.underlying32 Try.info_i64 rfl .i64 .i64 m (by omega) (by omega) W
    obtain ⟨W, hW⟩ : ∃ W, w4.alloc (.cells (madeCells #[.int .i64 0] m) 2) = W := ⟨_, rfl⟩
    have hU0 : GL strE 9 w.heap.size W (.slice (some ⟨g, 0, none⟩) m n) U := hW ▸ hU.alloc _
    have hM0 : GL intE 2 w.heap.size W (.slice (some ⟨w4.heap.size, 0, none⟩) m m) (cntL U (l.take 0)) := by
      rw [List.take_zero, cntL_zero, hm, ← hW]
      exact GL.zeros w4 _ m (by unfold maxLen; omega) _ hz4
    have hb0 : Below w.heap.size w W := hW ▸ hb2.alloc hz4 _
    have hUM : Apart (.slice (some ⟨g, 0, none⟩) m n) (.slice (some ⟨w4.heap.size, 0, none⟩) m m) := Apart.new hU (fun k hk => by have h : w4.heap.size = k := Option.some.inj hk; omega)
    obtain ⟨gm, hgm⟩ : ∃ gm, w4.heap.size = gm := ⟨_, rfl⟩
    go_wp2_with fail
    try rw [hW]
    rw [hgm] at hM0 hUM
    try rw [hgm]
    clear hW hU hb2
    go_loopw [20] (fun i wr => ∃ (k : Nat) (t : List Int), k ≤ n ∧ i = .int .i64 k ∧ GL strE 9 w.heap.size wr (.slice (some ⟨g, 0, none⟩) m n) U ∧ GL intE 2 w.heap.size wr (.slice (some ⟨gm, 0, none⟩) m m) t ∧ Below w.heap.size w wr ∧ Hid (t = cntL U (l.take k))) (fun i _ => n - (intOf i).toNat)
    case atStart => exact ⟨0, _, Nat.zero_le _, rfl, hU0, hM0, hb0, Lib.hid rfl⟩
    case round =>
      obtain ⟨k, t, hk, rfl, hU, hM, hb, HT⟩ := hrel
      by_cases hlt : k < n
      · obtain ⟨b, off, x, hAe, hx, hcs⟩ := hr.get hlt
        subst hAe
        have hc0 := range_below (B := 0) hcs hb 0 (.string x) rfl
        simp only [strE, Nat.mul_one, Nat.add_zero] at hc0
        obtain ⟨j, hj⟩ := List.mem_iff_getElem?.1 (HM.out x (List.mem_of_getElem? hx))
        have hjm : j < m := by have := (List.getElem?_eq_some_iff.1 hj).1; omega
        have hI : Hid (Calls Try.prog 40 #[.slice (some ⟨g, 0, none⟩) m n, .string x] wr fun e w' => e = .returned (.int .i64 (j : Int)) ∧ w' = wr) := Lib.hid (by
          have h := Try.slices_Index_string g 0 m n U x wr (by omega) (by omega) (fun i hi => by
            rw [Nat.zero_add]
            have h1 : U[i]? = some U[i] := List.getElem?_eq_getElem hi
            rw [List.getD_eq_getElem?_getD, h1]
            exact hU.cellS h1)
          rw [List.take_of_length_le (by omega), index_uniq HN.out hj] at h
          exact h)
        obtain ⟨v, hv, hvk⟩ : ∃ v : Nat, t[j]? = some (v : Int) ∧ v ≤ k ∧ Hid (t.set j ((v : Int) + 1) = cntL U (l.take (k + 1))) := by
          refine ⟨cnt (l.take k) x, by rw [HT.out]; exact cntL_get hj, ?_, Lib.hid ?_⟩
          · have := cnt_le (l.take k) x; rw [List.length_take] at this; omega
          · rw [take_snoc hx, cntL_bump HN.out hj, HT.out]
        obtain ⟨hvk, HV⟩ := hvk
        have hcm := hM.cellI hv
        have hfm := hM.free j
        have hM5 := hM.setI (j := j) (by omega) ((v : Int) + 1)
        have hU5 := hU.touchO (touch_own wr gm m m j (.int .i64 ((v : Int) + 1))) hUM
        have hb5 := hb.setCell (p := ⟨gm, j, none⟩) hM.baseLe (.int .i64 ((v : Int) + 1))
        clear hv hj hx hcs
        go_wp2_with fail
        refine hI.out.mono ?_
        rintro e w5 ⟨rfl, rfl⟩
        go_wp2
        first | (refine ⟨⟨k + 1, _, by omega, by simp, hU5, hM5, hb5, HV⟩, ?_⟩; (simp [intOf]; omega)) | (go_roundw; (case rel => first | exact ⟨k + 1, _, by omega, by simp, hU5, hM5, hb5, HV⟩ | ((try refine ⟨trivial, ?_⟩); (repeat apply Exists.intro); exact ⟨⟨k + 1, _, by omega, by simp, hU5, hM5, hb5, HV⟩, rfl⟩)); (case measure => (simp [intOf]; omega)))
      · obtain rfl : k = n := by omega
        have F1 : Hid (countC l = t) := Lib.hid (by rw [E1.out, HT.out, List.take_of_length_le (by have := Hl.out; omega)])
        go_wp2
        go_ret3
        exact RetLLC.mk hU hM (by omega) (by omega) hUM E0.out F1.out E2.out hb

end Go.Proofs.Ytbblkmnafdmcdaa
