/- NeedlessGrants, the program's. -/
import Derived.Test.YtepegiklnhoobaaRows
import Derived.Test.YtepegiklnhoobaaNeed
namespace Go.Proofs.Ytepegiklnhoobaa
set_option linter.unusedVariables false
set_option linter.unusedSimpArgs false
set_option linter.unusedSectionVars false
open Go.RowKit Go.Maps

open Classical in
noncomputable def needI (rl : List DRole) (l : List DGrant) (k : Nat) : List Int := ((List.range k).filter fun i => sameB rl l (l.take i ++ l.drop (i + 1))).map fun (i : Nat) => (i : Int)
theorem need_out {rl : List DRole} {l : List DGrant} {k : Nat} (h : sameB rl l (l.take k ++ l.drop (k + 1)) = false) : needI rl l (k + 1) = needI rl l k := by
  unfold needI
  rw [List.range_succ, List.filter_append]
  simp [h]
theorem need_in {rl : List DRole} {l : List DGrant} {k : Nat} (h : sameB rl l (l.take k ++ l.drop (k + 1)) = true) : needI rl l (k + 1) = needI rl l k ++ [(k : Int)] := by
  unfold needI
  rw [List.range_succ, List.filter_append]
  simp [h]
noncomputable def needL (rl : List DRole) (l : List DGrant) : List Int := if grantsB rl l then needI rl l l.length else []
noncomputable def needCode (rl : List DRole) (l : List DGrant) : Int := if grantsB rl l then 0 else 1
theorem need_bad {rl : List DRole} {l : List DGrant} (h : grantsB rl l = false) : needL rl l = [] ∧ needCode rl l = 1 := by
  unfold needL needCode
  rw [h]
  exact ⟨rfl, rfl⟩
theorem need_ok {rl : List DRole} {l : List DGrant} (h : grantsB rl l = true) : needL rl l = needI rl l l.length ∧ needCode rl l = 0 := by
  unfold needL needCode
  rw [h]
  exact ⟨rfl, rfl⟩
theorem RetL.rd {α : Type} {E : Enc α} {et : TypeId} {l : List α} {w w' : World} {e : Ending} (h : RetL E et l w e w') : ∃ A n c, l.length = n ∧ n ≤ 4194304 ∧ Rd E w' A n l ∧ e = .returned (.slice A n c) ∧ Below w.heap.size w w' := by
  obtain ⟨A, n, c, hl, hn, ho, he, hb⟩ := h
  have hg : GL E et w.heap.size w' (.slice A n c) l := by
    subst hl
    exact ho
  exact ⟨A, n, c, hl, hn, hg.rd, he, hb⟩

set_option maxRecDepth 100000 in
set_option maxHeartbeats 4000000 in
theorem I_NeedlessGrants (A1 : Option Addr) (n1 c1 : Nat) (rl : List DRole) (A : Option Addr) (n c : Nat) (l : List DGrant) (w : World) (hrl : RdRole w A1 n1 rl) (hn1 : n1 ≤ 1048576) (hg1 : ∀ x ∈ rl, x.good) (hs1 : sumRole rl ≤ 1048576)
    (hr : Rd grantE w A n l) (hcap : n ≤ c) (hn : n ≤ 1048576) (hg : ∀ x ∈ l, x.good) (hs : sumGrant l ≤ 1048576) :
    Calls Try.prog 45 #[.slice A1 n1 c1, .slice A n c] w (RetLC intE 2 (needL rl l) (needCode rl l) w) := by
  have Hl := Lib.hid hr.1
  obtain ⟨i0, hi, hz0, hz1, hz2⟩ := info_parts Try.info_i64
  have HZ := Lib.hid (And.intro hz0 hz1); clear hz0 hz1
  have hok := I_ValidGrants A1 n1 c1 rl A n c l w hrl hn1 hg1 hs1 hr hn hg hs
  rcases hB : grantsB rl l with _ | _
  · have E := Lib.hid (need_bad hB)
    rw [hB] at hok
    clear hB
    go_enter Try.func45, Try.ntmps45
    go_wp2_with fail
    refine hok.mono ?_
    rintro e w1 ⟨rfl, hb1⟩
    clear hok
    go_wp2
    go_ret2
    exact RetLC.nil E.out.1 E.out.2 hb1
  · have HB := Lib.hid hB
    have E := Lib.hid (need_ok hB)
    rw [hB] at hok
    clear hB
    go_enter Try.func45, Try.ntmps45
    go_wp2_with fail
    refine hok.mono ?_
    rintro e w1 ⟨rfl, hb1⟩
    clear hok
    have hz1 := hb1.size
    have hgl0 : GL intE 2 w.heap.size (w1.alloc (.cells #[] 2)) (.slice (some ⟨w1.heap.size, 0, none⟩) 0 0) [] := GL.mk0 hz1
    have hb0 : Below w.heap.size w (w1.alloc (.cells #[] 2)) := hb1.alloc hz1 _
    go_wp2_with fail
    go_loopw [6, 15] (fun v i wr => ∃ (k z : Nat) (r : List Int) (A' : Option Addr) (c' : Nat), k ≤ n ∧ i = .int .i64 k ∧ v = .slice A' z c' ∧ GL intE 2 w.heap.size wr (.slice A' z c') r ∧ z ≤ k ∧ Below w.heap.size w wr ∧ Hid (r = needI rl l k)) (fun _ i _ => n - (intOf i).toNat)
    case atStart => exact ⟨0, 0, [], _, _, Nat.zero_le _, rfl, rfl, hgl0, Nat.le_refl _, hb0, Lib.hid rfl⟩
    case round =>
      clear hb0 hgl0 hz1 hb1
      obtain ⟨k, z, r, A', c', hk, rfl, rfl, hgl, hzk, hb, HR⟩ := hrel
      by_cases hlt : k < n
      · obtain ⟨m, rfl⟩ : ∃ m, n = m + 1 := ⟨n - 1, by omega⟩
        have hin := roles_inj (grants_roles HB.out)
        have hgo := (sorted_of_grants HB.out).ok
        have hgo' : ∀ y ∈ l.take k ++ l.drop (k + 1), okG rl y = true := fun y hy => hgo y (without_sub hy)
        have hlq : (l.take k ++ l.drop (k + 1)).length = m := by
          have := Hl.out
          simp
          omega
        have hsame := fun (A' : Option Addr) (c' : Nat) (W : World) (h1 : RdRole W A1 n1 rl) (h2 : Rd grantE W A (m + 1) l) (h3 : Rd grantE W A' m (l.take k ++ l.drop (k + 1))) => i_sameRights A1 n1 c1 rl A (m + 1) c l A' m c' _ W h1 hn1 hs1 h2 hn h3 (by omega) (grants_roles HB.out) hgo hgo' hin
        clear hin hgo hgo' hlq
        rcases hS : sameB rl l (l.take k ++ l.drop (k + 1)) with _ | _
        · have HK : Hid (r = needI rl l (k + 1)) := Lib.hid (by rw [need_out hS]; exact HR.out)
          rw [hS] at hsame
          have HS := Lib.hid hsame
          clear hS hsame
          go_wp2_with fail
          refine (i_cloneGrant A (m + 1) c l _ (hr.below hb) (by omega)).mono ?_
          rintro e w3 ⟨g, rfl, hglc, hb3⟩
          go_wp2_with fail
          refine (i_DeleteGrant g m (m + 1) k _ l _ wr hglc (by omega) (by omega) hb3).mono ?_
          rintro e w4 ⟨rfl, hglc4, hb4⟩
          clear hglc hb3
          have hbG := hb.trans (hb4.mono hb.size)
          have hglG := hgl.below hb4
          clear hgl hb4
          go_wp2_with fail
          refine (HS.out _ _ _ (hrl.below hbG) (hr.below hbG) hglc4.rd).mono ?_
          rintro e wq ⟨rfl, hbq⟩
          have hglQ := hglG.below hbq
          have hbQ := hbG.trans (hbq.mono hbG.size)
          clear hglc4 hglG hbq hbG hb
          go_wp2
          first | (refine ⟨⟨k + 1, z, r, A', c', by omega, by go_num, rfl, hglQ, by omega, hbQ, HK⟩, ?_⟩; (simp [intOf]; omega)) | (go_roundw; (case rel => first | exact ⟨k + 1, z, r, A', c', by omega, by go_num, rfl, hglQ, by omega, hbQ, HK⟩ | ((try refine ⟨trivial, ?_⟩); (repeat apply Exists.intro); exact ⟨⟨k + 1, z, r, A', c', by omega, by go_num, rfl, hglQ, by omega, hbQ, HK⟩, rfl⟩)); (case measure => (simp [intOf]; omega)))
        · have HK : Hid (r ++ [(k : Int)] = needI rl l (k + 1)) := Lib.hid (by rw [need_in hS, HR.out])
          rw [hS] at hsame
          have HS := Lib.hid hsame
          clear hS hsame
          go_wp2_with fail
          refine (i_cloneGrant A (m + 1) c l _ (hr.below hb) (by omega)).mono ?_
          rintro e w3 ⟨g, rfl, hglc, hb3⟩
          go_wp2_with fail
          refine (i_DeleteGrant g m (m + 1) k _ l _ wr hglc (by omega) (by omega) hb3).mono ?_
          rintro e w4 ⟨rfl, hglc4, hb4⟩
          clear hglc hb3
          have hbG := hb.trans (hb4.mono hb.size)
          have hglG := hgl.below hb4
          clear hgl hb4
          go_wp2_with fail
          refine (HS.out _ _ _ (hrl.below hbG) (hr.below hbG) hglc4.rd).mono ?_
          rintro e wq ⟨rfl, hbq⟩
          have hglQ := hglG.below hbq
          have hbQ := hbG.trans (hbq.mono hbG.size)
          clear hglc4 hglG hbq hbG hb
          have hlo := hglQ.lt
          have hbz := hbQ.size
          go_wp2_with (at_builtin; refine wpList_pushO intE rfl _ _ 60 rfl w.heap.size 2 i0 _ 8 Try.underlying60 hi HZ.out.1 HZ.out.2 hz2 rfl A' z c' r (k : Int) rfl (hglQ.alloc _) wq.heap.size rfl (range_new _ _ _) (by omega) (by decide) (by simp; omega) ?_; intro A2 c2 w6 hgl6 ht6 _)
          have hb6 := Below.touch (hbQ.alloc hbz (.cells #[.int .i64 (k : Int)] 2)) ht6 (fun q hq => (hlo q hq).1) (by simp; omega)
          first | (refine ⟨⟨k + 1, z + 1, r ++ [(k : Int)], A2, c2, by omega, by go_num, rfl, hgl6, by omega, hb6, HK⟩, ?_⟩; (simp [intOf]; omega)) | (go_roundw; (case rel => first | exact ⟨k + 1, z + 1, r ++ [(k : Int)], A2, c2, by omega, by go_num, rfl, hgl6, by omega, hb6, HK⟩ | ((try refine ⟨trivial, ?_⟩); (repeat apply Exists.intro); exact ⟨⟨k + 1, z + 1, r ++ [(k : Int)], A2, c2, by omega, by go_num, rfl, hgl6, by omega, hb6, HK⟩, rfl⟩)); (case measure => (simp [intOf]; omega)))
      · obtain rfl : k = n := by omega
        have F1 : Hid (needL rl l = r) := Lib.hid (by rw [E.out.1, HR.out, Hl.out])
        go_wp2
        go_ret2
        exact RetLC.mk hgl (by omega) F1.out E.out.2 hb

end Go.Proofs.Ytepegiklnhoobaa
