/- NeedlessGrants, the reference's. -/
import Derived.Test.YtepegiklnhoobaaRows
import Derived.Test.YtepegiklnhoobaaNeedI
import Derived.Deep.RegionHeld3
namespace Go.Proofs.Ytepegiklnhoobaa
set_option linter.unusedVariables false
set_option linter.unusedSimpArgs false
set_option linter.unusedSectionVars false
open Go.RowKit Go.Maps

theorem okG_role {rl : List DRole} {x : DGrant} (h : okG rl x = true) : ∃ q : Nat, fnd rl x.fRole = q := by
  have h0 := (okG_object h).2.2.2
  exact ⟨(fnd rl x.fRole).toNat, by omega⟩

set_option maxRecDepth 100000 in
set_option maxHeartbeats 4000000 in
theorem S_NeedlessGrants (A1 : Option Addr) (n1 c1 : Nat) (rl : List DRole) (A : Option Addr) (n c : Nat) (l : List DGrant) (w : World) (hrl : RdRole w A1 n1 rl) (hn1 : n1 ≤ 1048576) (hg1 : ∀ x ∈ rl, x.good) (hs1 : sumRole rl ≤ 1048576)
    (hr : Rd grantE w A n l) (hcap : n ≤ c) (hn : n ≤ 1048576) (hg : ∀ x ∈ l, x.good) (hs : sumGrant l ≤ 1048576) :
    Calls Try.prog 44 #[.slice A1 n1 c1, .slice A n c] w (RetLC intE 2 (needL rl l) (needCode rl l) w) := by
  have Hl := Lib.hid hr.1
  obtain ⟨i0, hi, hz0, hz1, hz2⟩ := info_parts Try.info_i64
  have HZ := Lib.hid (And.intro hz0 hz1); clear hz0 hz1
  have hok := s_l28Ok A1 A n1 c1 n c rl l w hrl hn1 hg1 hs1 hr (by unfold maxLen; omega) hg
  rcases hB : grantsB rl l with _ | _
  · have E := Lib.hid (need_bad hB)
    rw [hB] at hok
    clear hB
    go_enter Try.func44, Try.ntmps44
    go_wp2_with fail
    refine hok.mono ?_
    rintro e w1 ⟨rfl, hb1⟩
    clear hok
    go_wp2
    go_ret2
    exact RetLC.nil E.out.1 E.out.2 hb1
  · have HB := Lib.hid hB
    have E := Lib.hid (need_ok hB)
    rw [hB] at hok
    clear hB
    go_enter Try.func44, Try.ntmps44
    go_wp2_with fail
    refine hok.mono ?_
    rintro e w1 ⟨rfl, hb1⟩
    clear hok
    have hz1 := hb1.size
    have hgl0 : GL intE 2 w.heap.size (w1.alloc (.cells #[] 2)) (.slice (some ⟨w1.heap.size, 0, none⟩) 0 0) [] := GL.mk0 hz1
    have hb0 : Below w.heap.size w (w1.alloc (.cells #[] 2)) := hb1.alloc hz1 _
    go_wp2_with fail
    go_loopw [6, 7] (fun v i wr => ∃ (k z : Nat) (r : List Int) (A' : Option Addr) (c' : Nat), k ≤ n ∧ i = .int .i64 k ∧ v = .slice A' z c' ∧ GL intE 2 w.heap.size wr (.slice A' z c') r ∧ z ≤ k ∧ Below w.heap.size w wr ∧ Hid (r = needI rl l k)) (fun _ i _ => n - (intOf i).toNat)
    case atStart => exact ⟨0, 0, [], _, _, Nat.zero_le _, rfl, rfl, hgl0, Nat.le_refl _, hb0, Lib.hid rfl⟩
    case round =>
      clear hb0 hgl0 hz1 hb1
      obtain ⟨k, z, r, A', c', hk, rfl, rfl, hgl, hzk, hb, HR⟩ := hrel
      by_cases hlt : k < n
      · obtain ⟨b, off, x, rfl, hx, hc⟩ := hr.get hlt
        have hbd := hb.drew
        have z0 := range_below (B := 0) hc hbd 0 (.string x.fRole) rfl
        have z1 := range_below (B := 0) hc hbd 1 (.string x.fObject) rfl
        have z2 := range_below (B := 0) hc hbd 2 (.int .i64 x.fAction) rfl
        simp only [grantE, Nat.add_zero] at z0 z1 z2
        have hgo := (sorted_of_grants HB.out).ok
        have hgo' : ∀ y ∈ l.take k ++ l.drop (k + 1), okG rl y = true := fun y hy => hgo y (without_sub hy)
        have hlq : (l.take k ++ l.drop (k + 1)).length = n - 1 := by
          have := Hl.out
          simp
          omega
        obtain ⟨q, hq⟩ := okG_role (hgo x (List.mem_of_getElem? hx))
        have hsm := needless (roles_inj (grants_roles HB.out)) hgo hx hq
        have hmay := fun (A' : Option Addr) (n' c' : Nat) (W : World) (h1 : RdRole W A1 n1 rl) (h3 : Rd grantE W A' n' (l.take k ++ l.drop (k + 1))) (h4 : n' ≤ 1048576) => s_l28May A1 n1 c1 rl A' n' c' _ q x.fObject x.fAction W h1 hn1 hs1 h3 h4 (grants_roles HB.out) hgo'
        rw [← hsm] at hmay
        have HQ := Lib.hid hq
        have hkk : (0 : Int) ≤ (k : Int) := by omega
        have hkn : (k : Int) < (n : Int) := by omega
        have hgld := hgl.drew
        have hrd := hr.below hbd
        have hrld := hrl.below hbd
        clear hgo hgo' hsm hq hx hc
        rcases hS : sameB rl l (l.take k ++ l.drop (k + 1)) with _ | _
        · have HK : Hid (r = needI rl l (k + 1)) := Lib.hid (by rw [need_out hS]; exact HR.out)
          rw [hS] at hmay
          have HS := Lib.hid hmay
          clear hS hmay
          go_wp2_with fail
          go_region_held3 (fun w' => w'.cell? ⟨b, off + k * 3, none⟩ = some (.string x.fRole) ∧ w'.cell? ⟨b, off + k * 3 + 1, none⟩ = some (.string x.fObject) ∧ w'.cell? ⟨b, off + k * 3 + 2, none⟩ = some (.int .i64 x.fAction))
            (first | exact ⟨z0, z1, z2⟩ | exact ⟨cell_later hb3 z0, cell_later hb3 z1, cell_later hb3 z2⟩ | exact ⟨cell_later hbq (cell_later hb3 z0), cell_later hbq (cell_later hb3 z1), cell_later hbq (cell_later hb3 z2)⟩)
            (first
              | (go_at_call 72; refine (s_l28Without (some ⟨b, off, none⟩) n c k l _ hrd hcap hn hlt).mono ?_; intro e w3 hret; obtain ⟨A7, n7, c7, hl7, hn7, hrd7, rfl, hb3⟩ := hret.rd; clear hret)
              | (go_at_call 62; refine (s_l28Find A1 n1 c1 rl x.fRole _ (hrld.below hb3) hn1).mono ?_; rintro e w5 ⟨rfl, rfl⟩; rw [HQ.out])
              | (go_at_call 70; refine (HS.out A7 n7 c7 _ (hrld.below hb3) hrd7 (by omega)).mono ?_; rintro e wq ⟨rfl, hbq⟩))
          all_goals
            have hbG := hbd.trans (hb3.mono hbd.size)
            have hbQ := hbG.trans (hbq.mono hbG.size)
            have hglQ := (hgld.below hb3).below hbq
            clear hbq hb3 hb hgl hgld hrd hrld hrd7 hbd z0 z1 z2 hbG
            go_wp2
            first | (refine ⟨⟨k + 1, z, r, A', c', by omega, by go_num, rfl, hglQ, by omega, hbQ, HK⟩, ?_⟩; (simp [intOf]; omega)) | (go_roundw; (case rel => first | exact ⟨k + 1, z, r, A', c', by omega, by go_num, rfl, hglQ, by omega, hbQ, HK⟩ | ((try refine ⟨trivial, ?_⟩); (repeat apply Exists.intro); exact ⟨⟨k + 1, z, r, A', c', by omega, by go_num, rfl, hglQ, by omega, hbQ, HK⟩, rfl⟩)); (case measure => (simp [intOf]; omega)))
        · have HK : Hid (r ++ [(k : Int)] = needI rl l (k + 1)) := Lib.hid (by rw [need_in hS, HR.out])
          rw [hS] at hmay
          have HS := Lib.hid hmay
          clear hS hmay
          go_wp2_with fail
          go_region_held3 (fun w' => w'.cell? ⟨b, off + k * 3, none⟩ = some (.string x.fRole) ∧ w'.cell? ⟨b, off + k * 3 + 1, none⟩ = some (.string x.fObject) ∧ w'.cell? ⟨b, off + k * 3 + 2, none⟩ = some (.int .i64 x.fAction))
            (first | exact ⟨z0, z1, z2⟩ | exact ⟨cell_later hb3 z0, cell_later hb3 z1, cell_later hb3 z2⟩ | exact ⟨cell_later hbq (cell_later hb3 z0), cell_later hbq (cell_later hb3 z1), cell_later hbq (cell_later hb3 z2)⟩)
            (first
              | (go_at_call 72; refine (s_l28Without (some ⟨b, off, none⟩) n c k l _ hrd hcap hn hlt).mono ?_; intro e w3 hret; obtain ⟨A7, n7, c7, hl7, hn7, hrd7, rfl, hb3⟩ := hret.rd; clear hret)
              | (go_at_call 62; refine (s_l28Find A1 n1 c1 rl x.fRole _ (hrld.below hb3) hn1).mono ?_; rintro e w5 ⟨rfl, rfl⟩; rw [HQ.out])
              | (go_at_call 70; refine (HS.out A7 n7 c7 _ (hrld.below hb3) hrd7 (by omega)).mono ?_; rintro e wq ⟨rfl, hbq⟩))
          all_goals
            have hbG := hbd.trans (hb3.mono hbd.size)
            have hbQ := hbG.trans (hbq.mono hbG.size)
            have hglQ := (hgld.below hb3).below hbq
            clear hbq hb3 hb hgl hgld hrd hrld hrd7 hbd z0 z1 z2 hbG
            have hlo := hglQ.lt
            have hbz := hbQ.size
            go_wp2_with (at_builtin; refine wpList_pushO intE rfl _ _ 60 rfl w.heap.size 2 i0 _ 8 Try.underlying60 hi HZ.out.1 HZ.out.2 hz2 rfl A' z c' r (k : Int) rfl (hglQ.alloc _) wq.heap.size rfl (range_new _ _ _) (by omega) (by decide) (by simp; omega) ?_; intro A2 c2 w6 hgl6 ht6 _)
            have hb6 := Below.touch (hbQ.alloc hbz (.cells #[.int .i64 (k : Int)] 2)) ht6 (fun q hq => (hlo q hq).1) (by simp; omega)
            first | (refine ⟨⟨k + 1, z + 1, r ++ [(k : Int)], A2, c2, by omega, by go_num, rfl, hgl6, by omega, hb6, HK⟩, ?_⟩; (simp [intOf]; omega)) | (go_roundw; (case rel => first | exact ⟨k + 1, z + 1, r ++ [(k : Int)], A2, c2, by omega, by go_num, rfl, hgl6, by omega, hb6, HK⟩ | ((try refine ⟨trivial, ?_⟩); (repeat apply Exists.intro); exact ⟨⟨k + 1, z + 1, r ++ [(k : Int)], A2, c2, by omega, by go_num, rfl, hgl6, by omega, hb6, HK⟩, rfl⟩)); (case measure => (simp [intOf]; omega)))
      · obtain rfl : k = n := by omega
        have F1 : Hid (needL rl l = r) := Lib.hid (by rw [E.out.1, HR.out, Hl.out])
        go_wp2
        go_ret2
        exact RetLC.mk hgl (by omega) F1.out E.out.2 hb

end Go.Proofs.Ytepegiklnhoobaa
