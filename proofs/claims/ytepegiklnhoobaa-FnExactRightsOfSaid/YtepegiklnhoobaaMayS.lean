/- What a role may do: the reference. -/
import Derived.Test.YtepegiklnhoobaaRows
import Derived.Test.YtepegiklnhoobaaMayLaw
import Derived.Test.YtepegiklnhoobaaGrants
namespace Go.Proofs.Ytepegiklnhoobaa
set_option linter.unusedVariables false
set_option linter.unusedSimpArgs false
set_option linter.unusedSectionVars false
open Go.RowKit

set_option maxRecDepth 100000 in
set_option maxHeartbeats 4000000 in
theorem s_l28May (A1 : Option Addr) (n1 c1 : Nat) (rl : List DRole) (A : Option Addr) (n c : Nat) (l : List DGrant) (a : Nat) (o : ByteArray) (act : Int) (w : World) (hrl : RdRole w A1 n1 rl) (hn1 : n1 ≤ 1048576) (hs1 : sumRole rl ≤ 1048576)
    (hr : Rd grantE w A n l) (hn : n ≤ 1048576) (hok : ∀ i, RoleOk nameB rl i) (hgo : ∀ x ∈ l, okG rl x = true) :
    Calls Try.prog 70 #[.slice A1 n1 c1, .slice A n c, .int .i64 a, .string o, .int .i64 act] w fun e w' => e = .returned (.bool (mayB rl l a o act)) ∧ Below w.heap.size w w' := by
  have Hl := Lib.hid hr.1
  have Hl1 := Lib.hid hrl.len
  have HI := Lib.hid (roles_inj hok)
  have HGO := Lib.hid hgo
  have hund := s_l28Under A1 n1 c1 a rl w hrl hn1 (roles_under hok) hs1
  clear hok hgo
  go_enter Try.func70, Try.ntmps70
  go_wp2_with fail
  refine hund.mono ?_
  rintro e w1 ⟨g, rfl, hgb, hb1⟩
  clear hund
  go_wp2_with fail
  go_loopw [12] (fun i wr => ∃ k : Nat, k ≤ n ∧ i = .int .i64 k ∧ Below w1.heap.size w1 wr ∧ Hid (∀ (j : Nat) x, j < k → l[j]? = some x → (holdsR rl a x.fRole && (decide (x.fObject = o) && decide (act ≤ x.fAction))) = false)) (fun i _ => n - (intOf i).toNat)
  case atStart => exact ⟨0, Nat.zero_le _, rfl, Below.refl _ _, Lib.hid (fun j x h => absurd h (Nat.not_lt_zero _))⟩
  case round =>
    obtain ⟨k, hk, rfl, hb, HH⟩ := hrel
    have hbF := hb1.trans (hb.mono hb1.size)
    by_cases hlt : k < n
    · obtain ⟨b, off, x, rfl, hx, hc⟩ := hr.get hlt
      have hcr := range_below (B := 0) hc hbF
      have hc0 := hcr 0 (.string x.fRole) rfl
      have hc1 := hcr 1 (.string x.fObject) rfl
      have hc2 := hcr 2 (.int .i64 x.fAction) rfl
      simp only [grantE, Nat.add_zero] at hc0 hc1 hc2
      have HX := Lib.hid hx
      have hok := HGO.out x (mem_of_get hx)
      clear hcr hc hx
      obtain ⟨q, hq, hqn⟩ : ∃ q : Nat, fnd rl x.fRole = q ∧ q < n1 := by
        unfold okG at hok
        rw [Bool.and_eq_true, decide_eq_true_eq] at hok
        obtain ⟨q, hq⟩ := Int.eq_ofNat_of_zero_le hok.1
        exact ⟨q, hq, by have := fnd_lt hq; have := Hl1.out; omega⟩
      clear hok
      have hF := s_l28Find A1 n1 c1 rl x.fRole wr (hrl.below hbF) hn1
      rw [hq] at hF
      obtain ⟨bv, hbv⟩ : ∃ bv, (UndB rl a)[q]? = some bv := ⟨_, List.getElem?_eq_getElem (by rw [UndB_len]; have := Hl1.out; omega)⟩
      have hcb := (hgb.below hb).get1 (E := boolE) rfl (u := .bool bv) rfl hbv
      have HM := Lib.hid (holds_mark HI.out hq hbv)
      clear hbv hq
      have stepF : (holdsR rl a x.fRole && (decide (x.fObject = o) && decide (act ≤ x.fAction))) = false → Hid (∀ (j : Nat) x, j < k + 1 → l[j]? = some x → (holdsR rl a x.fRole && (decide (x.fObject = o) && decide (act ≤ x.fAction))) = false) := fun h => Lib.hid (fun j y hj hy => by
        rcases Nat.lt_or_ge j k with h' | h'
        · exact HH.out j y h' hy
        · obtain rfl : j = k := by omega
          rw [HX.out] at hy
          cases hy
          exact h)
      have SF := Lib.hid stepF
      clear stepF
      rcases hh : (decide (q = a) || bv) with _ | _
      · have HN := SF.out (by rw [HM.out, hh]; rfl)
        rw [Bool.or_eq_false_iff, decide_eq_false_iff_not] at hh
        obtain ⟨h1, rfl⟩ := hh
        have hne : ((q : Int) == (a : Int)) = false := by rw [beq_eq_false_iff_ne]; omega
        clear h1
        go_wp2_with fail
        refine hF.mono ?_
        rintro e w2 ⟨rfl, rfl⟩
        clear hF
        go_wp2
        first | (refine ⟨⟨k + 1, by omega, by go_num, hb, HN⟩, ?_⟩; (simp [intOf]; omega)) | (go_roundw; (case rel => first | exact ⟨k + 1, by omega, by go_num, hb, HN⟩ | ((try refine ⟨trivial, ?_⟩); (repeat apply Exists.intro); exact ⟨⟨k + 1, by omega, by go_num, hb, HN⟩, rfl⟩)); (case measure => (simp [intOf]; omega)))
      · have H1 := Lib.hid hh
        rcases hoe : x.fObject.toList == o.toList with _ | _
        · have HO : Hid (decide (x.fObject = o) = false) := Lib.hid (by rw [← eqS_iff]; exact hoe)
          have HN := SF.out (by rw [HO.out]; simp)
          by_cases hqa : q = a
          · subst hqa
            clear hh
            go_wp2_with fail
            refine hF.mono ?_
            rintro e w2 ⟨rfl, rfl⟩
            clear hF
            go_wp2
            first | (refine ⟨⟨k + 1, by omega, by go_num, hb, HN⟩, ?_⟩; (simp [intOf]; omega)) | (go_roundw; (case rel => first | exact ⟨k + 1, by omega, by go_num, hb, HN⟩ | ((try refine ⟨trivial, ?_⟩); (repeat apply Exists.intro); exact ⟨⟨k + 1, by omega, by go_num, hb, HN⟩, rfl⟩)); (case measure => (simp [intOf]; omega)))
          · have hne : ((q : Int) == (a : Int)) = false := by rw [beq_eq_false_iff_ne]; omega
            obtain rfl : bv = true := by rw [decide_eq_false hqa] at hh; simpa using hh
            clear hh
            go_wp2_with fail
            refine hF.mono ?_
            rintro e w2 ⟨rfl, rfl⟩
            clear hF
            go_wp2
            first | (refine ⟨⟨k + 1, by omega, by go_num, hb, HN⟩, ?_⟩; (simp [intOf]; omega)) | (go_roundw; (case rel => first | exact ⟨k + 1, by omega, by go_num, hb, HN⟩ | ((try refine ⟨trivial, ?_⟩); (repeat apply Exists.intro); exact ⟨⟨k + 1, by omega, by go_num, hb, HN⟩, rfl⟩)); (case measure => (simp [intOf]; omega)))
        · have HO : Hid (decide (x.fObject = o) = true) := Lib.hid (by rw [← eqS_iff]; exact hoe)
          by_cases hac : act ≤ x.fAction
          · have E : Hid (mayB rl l a o act = true) := Lib.hid (may_at HX.out (by rw [HM.out, H1.out, HO.out, decide_eq_true hac]; rfl))
            by_cases hqa : q = a
            · subst hqa
              clear hh
              go_wp2_with fail
              refine hF.mono ?_
              rintro e w2 ⟨rfl, rfl⟩
              clear hF
              go_wp2
              go_ret
              exact ⟨ret_bool E.out.symm, hbF⟩
            · have hne : ((q : Int) == (a : Int)) = false := by rw [beq_eq_false_iff_ne]; omega
              obtain rfl : bv = true := by rw [decide_eq_false hqa] at hh; simpa using hh
              clear hh
              go_wp2_with fail
              refine hF.mono ?_
              rintro e w2 ⟨rfl, rfl⟩
              clear hF
              go_wp2
              go_ret
              exact ⟨ret_bool E.out.symm, hbF⟩
          · have HN := SF.out (by rw [decide_eq_false hac]; simp)
            by_cases hqa : q = a
            · subst hqa
              clear hh
              go_wp2_with fail
              refine hF.mono ?_
              rintro e w2 ⟨rfl, rfl⟩
              clear hF
              go_wp2
              first | (refine ⟨⟨k + 1, by omega, by go_num, hb, HN⟩, ?_⟩; (simp [intOf]; omega)) | (go_roundw; (case rel => first | exact ⟨k + 1, by omega, by go_num, hb, HN⟩ | ((try refine ⟨trivial, ?_⟩); (repeat apply Exists.intro); exact ⟨⟨k + 1, by omega, by go_num, hb, HN⟩, rfl⟩)); (case measure => (simp [intOf]; omega)))
            · have hne : ((q : Int) == (a : Int)) = false := by rw [beq_eq_false_iff_ne]; omega
              obtain rfl : bv = true := by rw [decide_eq_false hqa] at hh; simpa using hh
              clear hh
              go_wp2_with fail
              refine hF.mono ?_
              rintro e w2 ⟨rfl, rfl⟩
              clear hF
              go_wp2
              first | (refine ⟨⟨k + 1, by omega, by go_num, hb, HN⟩, ?_⟩; (simp [intOf]; omega)) | (go_roundw; (case rel => first | exact ⟨k + 1, by omega, by go_num, hb, HN⟩ | ((try refine ⟨trivial, ?_⟩); (repeat apply Exists.intro); exact ⟨⟨k + 1, by omega, by go_num, hb, HN⟩, rfl⟩)); (case measure => (simp [intOf]; omega)))
    · have E : Hid (mayB rl l a o act = false) := Lib.hid (may_none (fun j x hx => HH.out j x (by have := (List.getElem?_eq_some_iff.1 hx).1; have := Hl.out; omega) hx))
      go_wp2
      go_ret
      exact ⟨ret_bool E.out.symm, hbF⟩

end Go.Proofs.Ytepegiklnhoobaa
