/- Grants with one more: the reference. -/
import Derived.Test.YtepegiklnhoobaaRows
import Derived.Test.YtepegiklnhoobaaAddG
import Derived.Deep.RegionHeld3
namespace Go.Proofs.Ytepegiklnhoobaa
set_option linter.unusedVariables false
set_option linter.unusedSimpArgs false
set_option linter.unusedSectionVars false
open Go.RowKit

set_option maxRecDepth 100000 in
set_option maxHeartbeats 4000000 in
theorem S_AddGrant (A1 : Option Addr) (n1 c1 : Nat) (rl : List DRole) (A : Option Addr) (n c : Nat) (l : List DGrant) (x : DGrant) (w : World) (hrl : RdRole w A1 n1 rl) (hn1 : n1 ≤ 1048576) (hg1 : ∀ x ∈ rl, x.good) (hs1 : sumRole rl ≤ 1048576)
    (hr : Rd grantE w A n l) (hcap : n ≤ c) (hA : (A = none ∧ c = 0) ∨ ∃ g, A = some ⟨g, 0, none⟩) (hn : n ≤ 1048576) (hg : ∀ x ∈ l, x.good) (hs : sumGrant l ≤ 1048576) (hgx : x.good) (hzx : x.sz ≤ 1048576) :
    Calls Try.prog 49 #[.slice A1 n1 c1, .slice A n c, .agg #[.string x.fRole, .string x.fObject, .int .i64 x.fAction]] w (RetLC grantE 50 (addList rl l x) (addCode rl l x) w) := by
  have Hl := Lib.hid hr.1
  obtain ⟨i0, hi, hz0, hz1, hz2⟩ := info_parts Try.inf_Grant
  have hsize : ∀ w, (Go.sizeOf 50).run Try.prog w = .ok 3 w := fun w => by simp [Go.sizeOf, typeInfo, hi, hz1]
  have hcx := range_new w #[.string x.fRole, .string x.fObject, .int .i64 x.fAction] 50
  have hb0 : Below w.heap.size w (w.alloc (.cells #[.string x.fRole, .string x.fObject, .int .i64 x.fAction] 50)) := by (repeat (first | exact Below.refl _ _ | assumption | refine Below.drew ?_ | refine Below.alloc ?_ (by first | omega | (simp; done) | (simp; omega) | exact Below.size (by assumption)) _ | refine Below.setCell ?_ (by first | omega | (simp; done) | (simp; omega)) _))
  obtain ⟨W0, hW0⟩ : ∃ W0, w.alloc (.cells #[.string x.fRole, .string x.fObject, .int .i64 x.fAction] 50) = W0 := ⟨_, rfl⟩
  rw [hW0] at hcx hb0
  have hx00 := hcx 0 _ rfl
  have hx01 := hcx 1 _ rfl
  have hx02 := hcx 2 _ rfl
  simp only [Nat.zero_add] at hx00 hx01 hx02
  go_enter Try.func49, Try.ntmps49
  go_wp2_with fail
  try rw [hW0]
  clear hW0
  refine (s_l28Ok A1 A n1 c1 n c rl l _ (hrl.below hb0) hn1 hg1 hs1 (hr.below hb0) (by unfold maxLen; omega) hg).mono ?_
  rintro e w1 ⟨rfl, hb1⟩
  have hx0 := cell_later hb1 hx00
  have hx1 := cell_later hb1 hx01
  have hx2 := cell_later hb1 hx02
  have hcx1 := range_below (B := 0) hcx hb1
  have hbF := hb0.trans (hb1.mono hb0.size)
  clear hcx hb1 hb0 hx00 hx01 hx02
  rcases hB : grantsB rl l with _ | _
  · have HB := Lib.hid (add_bad (x := x) hB)
    clear hB
    go_wp2
    go_ret2
    exact RetLC.nil HB.out.1 HB.out.2 hbF
  · have HG := Lib.hid hB
    have HSo := Lib.hid (sorted_of_grants hB)
    clear hB
    have hone := s_l28One A1 n1 c1 w.heap.size 0 rl x w1 (hrl.below hbF) hn1 hgx hcx1
    rcases hk : okG rl x with _ | _
    · have HB := Lib.hid (add_range HG.out hk)
      rw [hk] at hone
      clear hk
      go_wp2_with fail
      refine hone.mono ?_
      rintro e w2 ⟨rfl, rfl⟩
      clear hone
      go_wp2
      go_ret2
      exact RetLC.nil HB.out.1 HB.out.2 hbF
    · have HK := Lib.hid hk
      rw [hk] at hone
      clear hk
      go_wp2_with fail
      refine hone.mono ?_
      rintro e w2 ⟨rfl, rfl⟩
      clear hone
      go_wp2_with fail
      go_loopw [8] (fun i wr => ∃ k : Nat, k ≤ n ∧ i = .int .i64 k ∧ Below w.heap.size w wr ∧ wr.rangeAt w.heap.size 0 (grantE.cells x) ∧ Hid (∀ (j : Nat) z, j < k → l[j]? = some z → cmpGr z x < 0)) (fun i _ => n - (intOf i).toNat)
      case atStart => exact ⟨0, Nat.zero_le _, rfl, hbF, hcx1, Lib.hid (fun j z h => absurd h (Nat.not_lt_zero _))⟩
      case round =>
        clear hbF hx0 hx1 hx2 hcx1
        obtain ⟨k, hk, rfl, hb, hcx, HH⟩ := hrel
        by_cases hlt : k < n
        · obtain ⟨b, off, y, rfl, hy, hc⟩ := hr.get hlt
          have HY := Lib.hid hy
          have HC := Lib.hid (range_below (B := 0) hc hb)
          have HCX := Lib.hid hcx
          have hbef := s_l28Before b (off + k * 3) w.heap.size 0 y x wr HC.out hcx
          clear hc hy
          rcases hlt' : decide (cmpGr y x < 0) with _ | _
          · have HP : Hid (posG l x = k) := Lib.hid (posG_at HH.out (fun z hz => by rw [HY.out] at hz; cases hz; exact of_decide_eq_false hlt') (by have := Hl.out; omega))
            have HF := Lib.hid (foundG_eq (x := x) HY.out)
            have hne := fun W => run_eql_Grant y x W
            rw [hlt'] at hbef
            clear hlt'
            rcases he : y.eqv x with _ | _
            · rw [he] at hne HF
              clear he
              by_cases h48 : n = 48
              · have HB := Lib.hid (add_full HG.out HK.out (by rw [HP.out]; exact HF.out) (Hl.out.trans h48))
                have h48' : ((n : Int) == 48) = true := by rw [beq_iff_eq]; omega
                clear h48 hcx
                go_wp2_with fail
                refine hbef.mono ?_
                rintro e w2 ⟨rfl, q, rfl⟩
                have hbq := below_drewN hb q
                have hy0 := HC.out 0 (.string y.fRole) rfl
                have hy1 := HC.out 1 (.string y.fObject) rfl
                have hy2 := HC.out 2 (.int .i64 y.fAction) rfl
                have hx0 := HCX.out 0 (.string x.fRole) rfl
                have hx1 := HCX.out 1 (.string x.fObject) rfl
                have hx2 := HCX.out 2 (.int .i64 x.fAction) rfl
                simp only [grantE, Nat.add_zero, Nat.zero_add] at hy0 hy1 hy2 hx0 hx1 hx2
                clear hbef
                go_wp2_with fail
                go_quiet (fail)
                clear hne hy0 hy1 hy2
                go_wp2
                go_ret2
                exact RetLC.nil HB.out.1 HB.out.2 (by first | exact hbq | exact below_drewN hbq _ | exact below_drewN hb _)
              · have HB := Lib.hid (add_new HG.out HK.out HP.out HF.out (by rw [Hl.out]; exact h48))
                have h48' : ((n : Int) == 48) = false := by rw [beq_eq_false_iff_ne]; omega
                clear h48 hcx
                go_wp2_with fail
                refine hbef.mono ?_
                rintro e w2 ⟨rfl, q, rfl⟩
                have hbq := below_drewN hb q
                have hy0 := HC.out 0 (.string y.fRole) rfl
                have hy1 := HC.out 1 (.string y.fObject) rfl
                have hy2 := HC.out 2 (.int .i64 y.fAction) rfl
                have hx0 := HCX.out 0 (.string x.fRole) rfl
                have hx1 := HCX.out 1 (.string x.fObject) rfl
                have hx2 := HCX.out 2 (.int .i64 x.fAction) rfl
                simp only [grantE, Nat.add_zero, Nat.zero_add] at hy0 hy1 hy2 hx0 hx1 hx2
                clear hbef
                go_wp2_with fail
                go_quiet (fail)
                clear hne hy0 hy1 hy2
                generalize hwq : World.drewN _ _ = wq
                have hbz : Below w.heap.size w wq := by
                  rw [← hwq]
                  first | exact below_drewN hb _ | exact below_drewN (below_drewN hb _) _
                have hcz : wq.rangeAt w.heap.size 0 (grantE.cells x) := by rw [← hwq]; exact HCX.out
                clear hwq
                have hsz := hbz.size
                have hkc : k ≤ c := by omega
                have hgl0 : GL grantE 50 wq.heap.size (wq.alloc (.cells #[] 50)) (.slice (some ⟨wq.heap.size, 0, none⟩) 0 0) [] := GL.mk0 (Nat.le_refl _)
                have hb2 : Below wq.heap.size wq (wq.alloc (.cells #[] 50)) := (Below.refl _ _).alloc (Nat.le_refl _) _
                have hrq := hr.below hbz
                have hr3 := (hrq.below hb2).take k (by omega)
                have hlen : (l.take k).length = k := by rw [List.length_take, Hl.out]; omega
                have hs1 := fun W => run_headS (P := Try.prog) W 39 50 3 Try.underlying39 hsize (some ⟨b, off, none⟩ : Option Addr) n c k (by omega)
                have hs2 := fun W => run_restS (P := Try.prog) W 39 50 3 Try.underlying39 hsize (some ⟨b, off, none⟩ : Option Addr) n c k (by omega) hcap
                obtain ⟨AD, hAD⟩ : ∃ AD : Option Addr, (if c = k then (some ⟨b, off, none⟩ : Option Addr) else (some ⟨b, off, none⟩ : Option Addr).map (·.add (k * 3))) = AD := ⟨_, rfl⟩
                rw [hAD] at hs2
                have hr4 : 0 < n - k → ∃ ad, AD = some ad ∧ ∀ W, Below wq.heap.size wq W → ∀ j u, ((l.drop k).flatMap grantE.cells)[j]? = some u → W.cell? (ad.add j) = some u := fun h => by
                  obtain ⟨bb, oo, hEE, _⟩ := hrq.2 (by omega)
                  have hrq' := hrq
                  rw [hEE] at hrq'
                  refine ⟨⟨bb, oo + k * 3, none⟩, ?_, fun W hW j u hu => ?_⟩
                  · rw [← hAD, if_neg (by omega), hEE]
                    simp [addr_add]
                  · obtain ⟨ad, e, h'⟩ := (((hrq'.below hW).drop k (by omega)).src (by omega))
                    cases e
                    exact h' j u hu
                have hADn : AD = none → n - k = 0 := fun h => by
                  rcases Nat.eq_zero_or_pos (n - k) with h0 | h0
                  · exact h0
                  · obtain ⟨ad, e, _⟩ := hr4 h0
                    rw [e] at h
                    cases h
                have hdl : (l.drop k).length = n - k := by rw [List.length_drop, Hl.out]
                clear hAD
                go_wp2_with (first
                  | (at_builtin; refine wpList_pushL grantE rfl (.tmp 44) (.tmp 47) 39 rfl wq.heap.size 50 i0 _ 40 Try.underlying39 hi hz0 hz1 hz2 rfl (.slice (some ⟨wq.heap.size, 0, none⟩) 0 0) [] (l.take k) rfl hgl0 (some ⟨b, off, none⟩ : Option Addr) k c rfl hlen (Rd.noneLen hr3) (Rd.src hr3) k (by simp) (l.take k) (by simp) (by omega) (by decide) wq hb2 hb2.size ?_; intro A1' c1' w3 hgl1 _ hb3 hs3
                     have hcw := range_below (B := 0) hcz hb3
                     have hx0 := hcw 0 (.string x.fRole) rfl
                     have hx1 := hcw 1 (.string x.fObject) rfl
                     have hx2 := hcw 2 (.int .i64 x.fAction) rfl
                     simp only [Nat.zero_add] at hx0 hx1 hx2
                     clear hcw)
                  | (at_builtin; refine wpList_pushO grantE rfl (.tmp 49) (.tmp 51) 39 rfl wq.heap.size 50 i0 _ 40 Try.underlying39 hi hz0 hz1 hz2 rfl A1' k c1' (l.take k) x rfl (hgl1.alloc _) w3.heap.size rfl (range_new _ _ _) (by omega) (by decide) (by simp; omega) ?_; intro A2' c2' w4 hgl2 ht4 _
                     have hb4 := Below.touch (hb3.alloc hs3 (.cells #[.string x.fRole, .string x.fObject, .int .i64 x.fAction] 50)) ht4 (fun k hk => (hgl1.lt k hk).1) (by simp; omega)
                     have hs4 := hb4.size
                     clear ht4)
                  | (at_builtin; refine wpList_pushL grantE rfl (.tmp 53) (.tmp 56) 39 rfl wq.heap.size 50 i0 _ 40 Try.underlying39 hi hz0 hz1 hz2 rfl (.slice A2' (k + 1) c2') (l.take k ++ [x]) (l.drop k) rfl hgl2 AD (n - k) (c - k) rfl hdl hADn (fun h => by obtain ⟨ad, e, h'⟩ := hr4 h; exact ⟨ad, e, h' _ hb4⟩) (n + 1) (by first | (rw [List.length_append, List.length_singleton, hlen]; omega) | rw [List.length_append, List.length_singleton, hlen]) _ rfl (by omega) (by decide) wq hb4 hs4 ?_; intro A3' c3' w5 hgl3 _ hb5 hs5))
                have hgz := hgl3.mono hsz
                have hbY := hbz.trans (hb5.mono hsz)
                go_ret2
                exact RetLC.mk hgz (by omega) HB.out.1 HB.out.2 hbY
            · rw [he] at hne HF
              clear he hcx
              have HB := Lib.hid (add_there HG.out HK.out (by rw [HP.out]; exact HF.out))
              go_wp2_with fail
              refine hbef.mono ?_
              rintro e w2 ⟨rfl, q, rfl⟩
              have hbq := below_drewN hb q
              have hy0 := HC.out 0 (.string y.fRole) rfl
              have hy1 := HC.out 1 (.string y.fObject) rfl
              have hy2 := HC.out 2 (.int .i64 y.fAction) rfl
              have hx0 := HCX.out 0 (.string x.fRole) rfl
              have hx1 := HCX.out 1 (.string x.fObject) rfl
              have hx2 := HCX.out 2 (.int .i64 x.fAction) rfl
              simp only [grantE, Nat.add_zero, Nat.zero_add] at hy0 hy1 hy2 hx0 hx1 hx2
              clear hbef
              go_wp2_with fail
              go_quiet (fail)
              clear hne hy0 hy1 hy2
              go_wp2
              go_ret2
              exact RetLC.nil HB.out.1 HB.out.2 (by first | exact hbq | exact below_drewN hbq _ | exact below_drewN hb _)
          · have HN : Hid (∀ (j : Nat) z, j < k + 1 → l[j]? = some z → cmpGr z x < 0) := Lib.hid (fun j z hj hz => by
              rcases Nat.lt_or_ge j k with h | h
              · exact HH.out j z h hz
              · obtain rfl : j = k := by omega
                rw [HY.out] at hz
                cases hz
                exact of_decide_eq_true hlt')
            rw [hlt'] at hbef
            clear hlt'
            go_wp2_with fail
            refine hbef.mono ?_
            rintro e w2 ⟨rfl, q, rfl⟩
            have hbq := below_drewN hb q
            have hcxq : (wr.drewN q).rangeAt w.heap.size 0 (grantE.cells x) := hcx
            clear hbef
            go_wp2
            first | (refine ⟨⟨k + 1, by omega, by go_num, hbq, hcxq, HN⟩, ?_⟩; (simp [intOf]; omega)) | (go_roundw; (case rel => first | exact ⟨k + 1, by omega, by go_num, hbq, hcxq, HN⟩ | ((try refine ⟨trivial, ?_⟩); (repeat apply Exists.intro); exact ⟨⟨k + 1, by omega, by go_num, hbq, hcxq, HN⟩, rfl⟩)); (case measure => (simp [intOf]; omega)))
        · have HP : Hid (posG l x = k) := Lib.hid (posG_at HH.out (fun z hz => by rw [List.getElem?_eq_none (by have := Hl.out; omega)] at hz; cases hz) (by have := Hl.out; omega))
          have HF : Hid (foundG l x k = false) := Lib.hid (foundG_none (by have := Hl.out; omega))
          have hbq := hb
          have HCX := Lib.hid hcx
          by_cases h48 : n = 48
          · have HB := Lib.hid (add_full HG.out HK.out (by rw [HP.out]; exact HF.out) (Hl.out.trans h48))
            have h48' : ((n : Int) == 48) = true := by rw [beq_iff_eq]; omega
            clear h48
            go_wp2_with fail
            go_quiet (fail)
            go_wp2
            go_ret2
            exact RetLC.nil HB.out.1 HB.out.2 (below_drewN hbq _)
          · have HB := Lib.hid (add_new HG.out HK.out HP.out HF.out (by rw [Hl.out]; exact h48))
            have h48' : ((n : Int) == 48) = false := by rw [beq_eq_false_iff_ne]; omega
            clear h48
            go_wp2_with fail
            go_quiet (fail)
            rcases hA with ⟨rfl, rfl⟩ | ⟨ga, rfl⟩
            · obtain rfl : n = 0 := Rd.noneLen hr rfl
              obtain rfl : k = 0 := by omega
              generalize hwq : World.drewN _ _ = wq
              have hbz : Below w.heap.size w wq := by
                rw [← hwq]
                first | exact below_drewN hb _ | exact below_drewN (below_drewN hb _) _
              have hcz : wq.rangeAt w.heap.size 0 (grantE.cells x) := by rw [← hwq]; exact HCX.out
              clear hwq
              have hsz := hbz.size
              have hgl0 : GL grantE 50 wq.heap.size (wq.alloc (.cells #[] 50)) (.slice (some ⟨wq.heap.size, 0, none⟩) 0 0) [] := GL.mk0 (Nat.le_refl _)
              have hb2 : Below wq.heap.size wq (wq.alloc (.cells #[] 50)) := (Below.refl _ _).alloc (Nat.le_refl _) _
              have hrq := hr.below hbz
              have hr3 := (hrq.below hb2).take 0 (by omega)
              have hlen : (l.take 0).length = 0 := by rw [List.length_take, Hl.out]; omega
              have hdl : (l.drop 0).length = 0 - 0 := by rw [List.length_drop, Hl.out]
              go_wp2_with (first
                | (at_builtin; refine wpList_pushL grantE rfl (.tmp 44) (.tmp 47) 39 rfl wq.heap.size 50 i0 _ 40 Try.underlying39 hi hz0 hz1 hz2 rfl (.slice (some ⟨wq.heap.size, 0, none⟩) 0 0) [] (l.take 0) rfl hgl0 (none : Option Addr) 0 0 rfl hlen (Rd.noneLen hr3) (Rd.src hr3) 0 (by simp) (l.take 0) (by simp) (by omega) (by decide) wq hb2 hb2.size ?_; intro A1' c1' w3 hgl1 _ hb3 hs3
                   have hcw := range_below (B := 0) hcz hb3
                   have hx0 := hcw 0 (.string x.fRole) rfl
                   have hx1 := hcw 1 (.string x.fObject) rfl
                   have hx2 := hcw 2 (.int .i64 x.fAction) rfl
                   simp only [Nat.zero_add] at hx0 hx1 hx2
                   clear hcw)
                | (at_builtin; refine wpList_pushO grantE rfl (.tmp 49) (.tmp 51) 39 rfl wq.heap.size 50 i0 _ 40 Try.underlying39 hi hz0 hz1 hz2 rfl A1' 0 c1' (l.take 0) x rfl (hgl1.alloc _) w3.heap.size rfl (range_new _ _ _) (by omega) (by decide) (by simp; omega) ?_; intro A2' c2' w4 hgl2 ht4 _
                   have hb4 := Below.touch (hb3.alloc hs3 (.cells #[.string x.fRole, .string x.fObject, .int .i64 x.fAction] 50)) ht4 (fun k hk => (hgl1.lt k hk).1) (by simp; omega)
                   have hs4 := hb4.size
                   clear ht4)
                | (at_builtin; refine wpList_pushL grantE rfl (.tmp 53) (.tmp 56) 39 rfl wq.heap.size 50 i0 _ 40 Try.underlying39 hi hz0 hz1 hz2 rfl (.slice A2' (0 + 1) c2') (l.take 0 ++ [x]) (l.drop 0) rfl hgl2 (none : Option Addr) (0 - 0) (0 - 0) rfl hdl (fun _ => by omega) (fun h => by omega) (0 + 1) (by first | (rw [List.length_append, List.length_singleton, hlen]; omega) | rw [List.length_append, List.length_singleton, hlen]) _ rfl (by omega) (by decide) wq hb4 hs4 ?_; intro A3' c3' w5 hgl3 _ hb5 hs5))
              have hgz := hgl3.mono hsz
              have hbY := hbz.trans (hb5.mono hsz)
              go_ret2
              exact RetLC.mk hgz (by omega) HB.out.1 HB.out.2 hbY
            · by_cases hc0 : c = 0
              · subst hc0
                obtain rfl : n = 0 := by omega
                obtain rfl : k = 0 := by omega
                generalize hwq : World.drewN _ _ = wq
                have hbz : Below w.heap.size w wq := by
                  rw [← hwq]
                  first | exact below_drewN hb _ | exact below_drewN (below_drewN hb _) _
                have hcz : wq.rangeAt w.heap.size 0 (grantE.cells x) := by rw [← hwq]; exact HCX.out
                clear hwq
                have hsz := hbz.size
                have hgl0 : GL grantE 50 wq.heap.size (wq.alloc (.cells #[] 50)) (.slice (some ⟨wq.heap.size, 0, none⟩) 0 0) [] := GL.mk0 (Nat.le_refl _)
                have hb2 : Below wq.heap.size wq (wq.alloc (.cells #[] 50)) := (Below.refl _ _).alloc (Nat.le_refl _) _
                have hrq := hr.below hbz
                have hr3 := (hrq.below hb2).take 0 (by omega)
                have hlen : (l.take 0).length = 0 := by rw [List.length_take, Hl.out]; omega
                have hdl : (l.drop 0).length = 0 - 0 := by rw [List.length_drop, Hl.out]
                go_wp2_with (first
                  | (at_builtin; refine wpList_pushL grantE rfl (.tmp 44) (.tmp 47) 39 rfl wq.heap.size 50 i0 _ 40 Try.underlying39 hi hz0 hz1 hz2 rfl (.slice (some ⟨wq.heap.size, 0, none⟩) 0 0) [] (l.take 0) rfl hgl0 (some ⟨ga, 0, none⟩ : Option Addr) 0 0 rfl hlen (Rd.noneLen hr3) (Rd.src hr3) 0 (by simp) (l.take 0) (by simp) (by omega) (by decide) wq hb2 hb2.size ?_; intro A1' c1' w3 hgl1 _ hb3 hs3
                     have hcw := range_below (B := 0) hcz hb3
                     have hx0 := hcw 0 (.string x.fRole) rfl
                     have hx1 := hcw 1 (.string x.fObject) rfl
                     have hx2 := hcw 2 (.int .i64 x.fAction) rfl
                     simp only [Nat.zero_add] at hx0 hx1 hx2
                     clear hcw)
                  | (at_builtin; refine wpList_pushO grantE rfl (.tmp 49) (.tmp 51) 39 rfl wq.heap.size 50 i0 _ 40 Try.underlying39 hi hz0 hz1 hz2 rfl A1' 0 c1' (l.take 0) x rfl (hgl1.alloc _) w3.heap.size rfl (range_new _ _ _) (by omega) (by decide) (by simp; omega) ?_; intro A2' c2' w4 hgl2 ht4 _
                     have hb4 := Below.touch (hb3.alloc hs3 (.cells #[.string x.fRole, .string x.fObject, .int .i64 x.fAction] 50)) ht4 (fun k hk => (hgl1.lt k hk).1) (by simp; omega)
                     have hs4 := hb4.size
                     clear ht4)
                  | (at_builtin; refine wpList_pushL grantE rfl (.tmp 53) (.tmp 56) 39 rfl wq.heap.size 50 i0 _ 40 Try.underlying39 hi hz0 hz1 hz2 rfl (.slice A2' (0 + 1) c2') (l.take 0 ++ [x]) (l.drop 0) rfl hgl2 (some ⟨ga, 0, none⟩ : Option Addr) (0 - 0) (0 - 0) rfl hdl (fun _ => by omega) (fun h => by omega) (0 + 1) (by first | (rw [List.length_append, List.length_singleton, hlen]; omega) | rw [List.length_append, List.length_singleton, hlen]) _ rfl (by omega) (by decide) wq hb4 hs4 ?_; intro A3' c3' w5 hgl3 _ hb5 hs5))
                have hgz := hgl3.mono hsz
                have hbY := hbz.trans (hb5.mono hsz)
                go_ret2
                exact RetLC.mk hgz (by omega) HB.out.1 HB.out.2 hbY
              · generalize hwq : World.drewN _ _ = wq
                have hbz : Below w.heap.size w wq := by
                  rw [← hwq]
                  first | exact below_drewN hb _ | exact below_drewN (below_drewN hb _) _
                have hcz : wq.rangeAt w.heap.size 0 (grantE.cells x) := by rw [← hwq]; exact HCX.out
                clear hwq
                have hsz := hbz.size
                have hkc : k ≤ c := by omega
                have hgl0 : GL grantE 50 wq.heap.size (wq.alloc (.cells #[] 50)) (.slice (some ⟨wq.heap.size, 0, none⟩) 0 0) [] := GL.mk0 (Nat.le_refl _)
                have hb2 : Below wq.heap.size wq (wq.alloc (.cells #[] 50)) := (Below.refl _ _).alloc (Nat.le_refl _) _
                have hrq := hr.below hbz
                have hr3 := (hrq.below hb2).take k (by omega)
                have hlen : (l.take k).length = k := by rw [List.length_take, Hl.out]; omega
                have hs1 := fun W => run_headS (P := Try.prog) W 39 50 3 Try.underlying39 hsize (some ⟨ga, 0, none⟩ : Option Addr) n c k (by omega)
                have hs2 := fun W => run_restS (P := Try.prog) W 39 50 3 Try.underlying39 hsize (some ⟨ga, 0, none⟩ : Option Addr) n c k (by omega) hcap
                obtain ⟨AD, hAD⟩ : ∃ AD : Option Addr, (if c = k then (some ⟨ga, 0, none⟩ : Option Addr) else (some ⟨ga, 0, none⟩ : Option Addr).map (·.add (k * 3))) = AD := ⟨_, rfl⟩
                rw [hAD] at hs2
                have hr4 : 0 < n - k → ∃ ad, AD = some ad ∧ ∀ W, Below wq.heap.size wq W → ∀ j u, ((l.drop k).flatMap grantE.cells)[j]? = some u → W.cell? (ad.add j) = some u := fun h => by
                  obtain ⟨bb, oo, hEE, _⟩ := hrq.2 (by omega)
                  have hrq' := hrq
                  rw [hEE] at hrq'
                  refine ⟨⟨bb, oo + k * 3, none⟩, ?_, fun W hW j u hu => ?_⟩
                  · rw [← hAD, if_neg (by omega), hEE]
                    simp [addr_add]
                  · obtain ⟨ad, e, h'⟩ := (((hrq'.below hW).drop k (by omega)).src (by omega))
                    cases e
                    exact h' j u hu
                have hADn : AD = none → n - k = 0 := fun h => by
                  rcases Nat.eq_zero_or_pos (n - k) with h0 | h0
                  · exact h0
                  · obtain ⟨ad, e, _⟩ := hr4 h0
                    rw [e] at h
                    cases h
                have hdl : (l.drop k).length = n - k := by rw [List.length_drop, Hl.out]
                clear hAD
                go_wp2_with (first
                  | (at_builtin; refine wpList_pushL grantE rfl (.tmp 44) (.tmp 47) 39 rfl wq.heap.size 50 i0 _ 40 Try.underlying39 hi hz0 hz1 hz2 rfl (.slice (some ⟨wq.heap.size, 0, none⟩) 0 0) [] (l.take k) rfl hgl0 (some ⟨ga, 0, none⟩ : Option Addr) k c rfl hlen (Rd.noneLen hr3) (Rd.src hr3) k (by simp) (l.take k) (by simp) (by omega) (by decide) wq hb2 hb2.size ?_; intro A1' c1' w3 hgl1 _ hb3 hs3
                     have hcw := range_below (B := 0) hcz hb3
                     have hx0 := hcw 0 (.string x.fRole) rfl
                     have hx1 := hcw 1 (.string x.fObject) rfl
                     have hx2 := hcw 2 (.int .i64 x.fAction) rfl
                     simp only [Nat.zero_add] at hx0 hx1 hx2
                     clear hcw)
                  | (at_builtin; refine wpList_pushO grantE rfl (.tmp 49) (.tmp 51) 39 rfl wq.heap.size 50 i0 _ 40 Try.underlying39 hi hz0 hz1 hz2 rfl A1' k c1' (l.take k) x rfl (hgl1.alloc _) w3.heap.size rfl (range_new _ _ _) (by omega) (by decide) (by simp; omega) ?_; intro A2' c2' w4 hgl2 ht4 _
                     have hb4 := Below.touch (hb3.alloc hs3 (.cells #[.string x.fRole, .string x.fObject, .int .i64 x.fAction] 50)) ht4 (fun k hk => (hgl1.lt k hk).1) (by simp; omega)
                     have hs4 := hb4.size
                     clear ht4)
                  | (at_builtin; refine wpList_pushL grantE rfl (.tmp 53) (.tmp 56) 39 rfl wq.heap.size 50 i0 _ 40 Try.underlying39 hi hz0 hz1 hz2 rfl (.slice A2' (k + 1) c2') (l.take k ++ [x]) (l.drop k) rfl hgl2 AD (n - k) (c - k) rfl hdl hADn (fun h => by obtain ⟨ad, e, h'⟩ := hr4 h; exact ⟨ad, e, h' _ hb4⟩) (n + 1) (by first | (rw [List.length_append, List.length_singleton, hlen]; omega) | rw [List.length_append, List.length_singleton, hlen]) _ rfl (by omega) (by decide) wq hb4 hs4 ?_; intro A3' c3' w5 hgl3 _ hb5 hs5))
                have hgz := hgl3.mono hsz
                have hbY := hbz.trans (hb5.mono hsz)
                go_ret2
                exact RetLC.mk hgz (by omega) HB.out.1 HB.out.2 hbY

end Go.Proofs.Ytepegiklnhoobaa
