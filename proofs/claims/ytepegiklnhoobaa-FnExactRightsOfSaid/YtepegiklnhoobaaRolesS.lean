/- Roles: the reference's search, its marks and its test. -/
import Derived.Test.YtepegiklnhoobaaRows
import Derived.Test.YtepegiklnhoobaaCRole
import Derived.Test.YtepegiklnhoobaaRoleLaw
import Derived.Test.YtepegiklnhoobaaOrd
import Derived.Test.YtepegiklnhoobaaNames
import Derived.Test.YtepegiklnhoobaaBools
namespace Go.Proofs.Ytepegiklnhoobaa
set_option linter.unusedVariables false
set_option linter.unusedSimpArgs false
set_option linter.unusedSectionVars false
open Go.RowKit

set_option maxHeartbeats 1000000 in
theorem s_l28Find (A : Option Addr) (n c : Nat) (l : List DRole) (nm : ByteArray) (w : World) (hr : RdRole w A n l) (hn : n ≤ 1048576) :
    Calls Try.prog 62 #[.slice A n c, .string nm] w fun e w' => e = .returned (.int .i64 (fnd l nm)) ∧ w = w' := by
  have Hl := Lib.hid hr.len
  go_enter Try.func62, Try.ntmps62
  go_wp2_with fail
  go_loop [5] (fun i => ∃ k : Nat, k ≤ n ∧ i = .int .i64 k ∧ Hid (∀ (j : Nat) (x : DRole), j < k → l[j]? = some x → ¬ x.name = nm)) (fun i => n - (intOf i).toNat)
  case atStart => exact ⟨0, Nat.zero_le _, rfl, Lib.hid (fun j x h => absurd h (Nat.not_lt_zero _))⟩
  case round =>
    obtain ⟨k, hk, rfl, HH⟩ := hrel
    by_cases hlt : k < n
    · obtain ⟨b, off, x, A', n', c', rfl, hx, hc, hru⟩ := hr.get hlt
      have hc0 := hc 0 (.string x.name) rfl
      simp only [Nat.add_zero] at hc0
      have HX := Lib.hid hx
      clear hc hx hru
      rcases h1 : x.name.toList == nm.toList with _ | _
      · have HN : Hid (∀ (j : Nat) (y : DRole), j < k + 1 → l[j]? = some y → ¬ y.name = nm) := Lib.hid (fun j y hj hy => by
          rcases Nat.lt_or_ge j k with h | h
          · exact HH.out j y h hy
          · obtain rfl : j = k := by omega
            rw [HX.out] at hy; cases hy
            rw [eqS_iff] at h1
            exact of_decide_eq_false h1)
        go_wp2
        first | (refine ⟨⟨k + 1, by omega, by go_num, HN⟩, ?_⟩; (simp [intOf]; omega)) | (go_round; (case rel => first | exact ⟨k + 1, by omega, by go_num, HN⟩ | ((try refine ⟨trivial, ?_⟩); (repeat apply Exists.intro); exact ⟨⟨k + 1, by omega, by go_num, HN⟩, rfl⟩)); (case measure => (simp [intOf]; omega)))
      · have E : Hid (fnd l nm = k) := Lib.hid (fnd_at HX.out (by rw [eqS_iff] at h1; exact of_decide_eq_true h1) HH.out)
        go_wp2
        go_ret
        exact ⟨ret_int E.out.symm, rfl⟩
    · have E : Hid (fnd l nm = -1) := Lib.hid (fnd_none (fun i x hx => HH.out i x (by have := (List.getElem?_eq_some_iff.1 hx).1; have := Hl.out; omega) hx))
      go_wp2
      go_ret
      exact ⟨ret_int E.out.symm, rfl⟩

set_option maxRecDepth 100000 in
set_option maxHeartbeats 4000000 in
theorem s_l28Under (A : Option Addr) (n c a : Nat) (l : List DRole) (w : World) (hr : RdRole w A n l) (hn : n ≤ 1048576) (hu : UnderIn l) (hs : sumRole l ≤ 1048576) :
    Calls Try.prog 63 #[.slice A n c, .int .i64 a] w fun e w' => ∃ g, e = .returned (.slice (some ⟨g, 0, none⟩) n n) ∧ GL boolE 4 w.heap.size w' (.slice (some ⟨g, 0, none⟩) n n) (UndB l a) ∧ Below w.heap.size w w' := by
  have Hl := Lib.hid hr.len
  have HU := Lib.hid hu; clear hu
  have HS := Lib.hid hs; clear hs
  have hmk := fun W => run_make_row' (P := Try.prog) 78 4 (.bool false) 1 Try.underlying78 Try.info_bool rfl .i64 .i64 n (by omega) (by omega) W
  go_enter Try.func63, Try.ntmps63
  go_wp2_with fail
  clear hmk
  go_loopw [6] (fun t wr => ∃ (k : Nat) (o : List Bool), k ≤ n ∧ t = .int .i64 k ∧ GL boolE 4 w.heap.size wr (.slice (some ⟨w.heap.size, 0, none⟩) n n) o ∧ Below w.heap.size w wr ∧ Hid (Marks l a o k)) (fun t _ => n - (intOf t).toNat)
  case atStart => exact ⟨0, List.replicate n false, Nat.zero_le _, rfl, GL.falses w _ n (by unfold maxLen; omega) _ (Nat.le_refl _), by (repeat (first | exact Below.refl _ _ | assumption | refine Below.drew ?_ | refine Below.alloc ?_ (by first | omega | (simp; done) | (simp; omega) | exact Below.size (by assumption)) _ | refine Below.setCell ?_ (by first | omega | (simp; done) | (simp; omega)) _)), Lib.hid (Marks.zero l a n Hl.out)⟩
  case round =>
    obtain ⟨k, o, hk, rfl, hgl, hb, HM⟩ := hrel
    by_cases hlt : k < n
    · go_wp2
      obtain ⟨wo, rfl⟩ : ∃ wo : World, wo = wr := ⟨_, rfl⟩
      go_loopw [7] (fun i wr => ∃ (q : Nat) (o' : List Bool), q ≤ n ∧ i = .int .i64 q ∧ GL boolE 4 w.heap.size wr (.slice (some ⟨w.heap.size, 0, none⟩) n n) o' ∧ Below w.heap.size w wr ∧ Hid (Pass l a o o' q)) (fun i _ => n - (intOf i).toNat)
      case atStart => exact ⟨0, o, Nat.zero_le _, rfl, hgl, hb, Lib.hid HM.out.pass⟩
      case round =>
        clear hb hgl
        obtain ⟨q, o', hq, rfl, hgl, hb, HP⟩ := hrel
        by_cases hqn : q < n
        · obtain ⟨b, off, x, A', n', c', rfl, hx, hc, hru⟩ := hr.get hqn
          have hn' : n' ≤ 1048576 := by rw [← hru.1]; exact under_le (mem_of_get hx) HS.out
          have hc1 := range_below (B := 0) hc hb 1 _ rfl
          have HX := Lib.hid hx
          have HC := Lib.hid hc
          have HR := Lib.hid hru
          clear hc hx hru
          go_wp2_with fail
          obtain ⟨wi, rfl⟩ : ∃ wi : World, wi = wr := ⟨_, rfl⟩
          clear hc1
          go_loopw [8] (fun i wr => ∃ (m : Nat) (o2 : List Bool), m ≤ n' ∧ i = .int .i64 m ∧ GL boolE 4 w.heap.size wr (.slice (some ⟨w.heap.size, 0, none⟩) n n) o2 ∧ Below w.heap.size w wr ∧ Hid (Pass l a o o2 q ∧ ∀ (j : Nat) u, j < m → x.under[j]? = some u → ∀ y : Nat, fnd l u = y → o2[y]? = some true)) (fun i _ => n' - (intOf i).toNat)
          case atStart => exact ⟨0, o', Nat.zero_le _, rfl, hgl, hb, Lib.hid ⟨HP.out, fun j u h => absurd h (Nat.not_lt_zero _)⟩⟩
          case round =>
            clear hb hgl HP
            obtain ⟨m, o2, hm, rfl, hgl, hb, HP⟩ := hrel
            have hc1 := range_below (B := 0) HC.out hb 1 _ rfl
            obtain ⟨bv, hbv⟩ : ∃ bv, o2[q]? = some bv := ⟨_, List.getElem?_eq_getElem (by have := HP.out.1.len; have := Hl.out; omega)⟩
            have hcb := hgl.get1 (E := boolE) rfl (u := .bool bv) rfl hbv
            by_cases hmn : m < n'
            · have step : ∀ (hin : q = a ∨ o2[q]? = some true), ∃ (u : ByteArray) (y : Nat), x.under[m]? = some u ∧ fnd l u = y ∧ y < n ∧ Hid (Pass l a o (o2.set y true) q ∧ ∀ (j : Nat) u, j < m + 1 → x.under[j]? = some u → ∀ y' : Nat, fnd l u = y' → (o2.set y true)[y']? = some true) := fun hin => by
                obtain ⟨u, hu⟩ : ∃ u, x.under[m]? = some u := ⟨_, List.getElem?_eq_getElem (by have := HR.out.1; omega)⟩
                obtain ⟨y, hy⟩ := HU.out q x HX.out u (List.mem_of_getElem? hu)
                have hyl := fnd_lt hy
                refine ⟨u, y, hu, hy, by have := Hl.out; omega, Lib.hid ⟨HP.out.1.mark hin ⟨x, u, HX.out, List.mem_of_getElem? hu, hy⟩, fun j u' hj hu' y' hy' => ?_⟩⟩
                rcases Nat.lt_or_ge j m with h | h
                · exact set_true.2 (.inr (HP.out.2 j u' h hu' y' hy'))
                · obtain rfl : j = m := by omega
                  rw [hu] at hu'
                  cases hu'
                  exact set_true.2 (.inl ⟨by omega, by have := HP.out.1.len; omega⟩)
              obtain ⟨b2, off2, u, rfl, hu, hcu⟩ := (HR.out.below hb).get hmn
              have hcu0 := hcu 0 (.string u) rfl
              simp only [strE, Nat.mul_one, Nat.add_zero] at hcu0
              have Hu := Lib.hid hu
              clear hcu hu
              have HF : Hid (∀ W : World, Below w.heap.size w W → Calls Try.prog 62 #[.slice (some ⟨b, off, none⟩) n c, .string u] W fun e w' => e = .returned (.int .i64 (fnd l u)) ∧ W = w') := Lib.hid (fun W h => s_l28Find _ n c l u W (hr.below h) hn)
              by_cases hqa : q = a
              · obtain ⟨u', y, hu', hy, hyn, HN⟩ := step (.inl hqa)
                rw [Hu.out] at hu'
                cases hu'
                have hfr := hgl.free y
                have hcy := hgl.cell (j := y) (by simp only [boolE]; omega)
                obtain ⟨vy, hcy⟩ := Option.isSome_iff_exists.1 hcy
                have hgl2 := Lib.hid (hgl.set1 (E := boolE) (x := true) (u := .bool true) rfl rfl hyn)
                have hb2 := hb.setCell (p := ⟨w.heap.size, y, none⟩) (Nat.le_refl _) (.bool true)
                have hf := HF.out wr hb
                rw [hy] at hf
                clear step hgl HF
                subst hqa
                go_wp2_with fail
                refine hf.mono ?_
                rintro e w1 ⟨rfl, rfl⟩
                clear hf
                go_wp2
                first | (refine ⟨⟨m + 1, o2.set y true, by omega, by go_num, hgl2.out, hb2, HN⟩, ?_⟩; (simp [intOf]; omega)) | (go_roundw; (case rel => first | exact ⟨m + 1, o2.set y true, by omega, by go_num, hgl2.out, hb2, HN⟩ | ((try refine ⟨trivial, ?_⟩); (repeat apply Exists.intro); exact ⟨⟨m + 1, o2.set y true, by omega, by go_num, hgl2.out, hb2, HN⟩, rfl⟩)); (case measure => (simp [intOf]; omega)))
              · have hne : ((q : Int) == (a : Int)) = false := by rw [beq_eq_false_iff_ne]; omega
                cases bv with
                | true =>
                  obtain ⟨u', y, hu', hy, hyn, HN⟩ := step (.inr hbv)
                  rw [Hu.out] at hu'
                  cases hu'
                  have hfr := hgl.free y
                  have hcy := hgl.cell (j := y) (by simp only [boolE]; omega)
                  obtain ⟨vy, hcy⟩ := Option.isSome_iff_exists.1 hcy
                  have hgl2 := Lib.hid (hgl.set1 (E := boolE) (x := true) (u := .bool true) rfl rfl hyn)
                  have hb2 := hb.setCell (p := ⟨w.heap.size, y, none⟩) (Nat.le_refl _) (.bool true)
                  have hf := HF.out wr hb
                  rw [hy] at hf
                  clear step hgl HF
                  go_wp2_with fail
                  refine hf.mono ?_
                  rintro e w1 ⟨rfl, rfl⟩
                  clear hf
                  go_wp2
                  first | (refine ⟨⟨m + 1, o2.set y true, by omega, by go_num, hgl2.out, hb2, HN⟩, ?_⟩; (simp [intOf]; omega)) | (go_roundw; (case rel => first | exact ⟨m + 1, o2.set y true, by omega, by go_num, hgl2.out, hb2, HN⟩ | ((try refine ⟨trivial, ?_⟩); (repeat apply Exists.intro); exact ⟨⟨m + 1, o2.set y true, by omega, by go_num, hgl2.out, hb2, HN⟩, rfl⟩)); (case measure => (simp [intOf]; omega)))
                | false =>
                  have HN := Lib.hid (HP.out.1.skip hqa hbv)
                  clear step HF
                  go_wp2
                  first | (refine ⟨⟨q + 1, o2, by omega, by go_num, hgl, hb, HN⟩, ?_⟩; (simp [intOf]; omega)) | (go_roundw; (case rel => first | exact ⟨q + 1, o2, by omega, by go_num, hgl, hb, HN⟩ | ((try refine ⟨trivial, ?_⟩); (repeat apply Exists.intro); exact ⟨⟨q + 1, o2, by omega, by go_num, hgl, hb, HN⟩, rfl⟩)); (case measure => (simp [intOf]; omega)))
            · have HN : Hid (Pass l a o o2 (q + 1)) := Lib.hid (HP.out.1.next fun j hj => by
                obtain ⟨x', u, hx', hu, hf⟩ := hj
                rw [HX.out] at hx'
                cases hx'
                obtain ⟨i, hi⟩ := List.mem_iff_getElem?.1 hu
                exact HP.out.2 i u (by have := (List.getElem?_eq_some_iff.1 hi).1; have := HR.out.1; omega) hi j hf)
              go_wp2
              first | (refine ⟨⟨q + 1, o2, by omega, by go_num, hgl, hb, HN⟩, ?_⟩; (simp [intOf]; omega)) | (go_roundw; (case rel => first | exact ⟨q + 1, o2, by omega, by go_num, hgl, hb, HN⟩ | ((try refine ⟨trivial, ?_⟩); (repeat apply Exists.intro); exact ⟨⟨q + 1, o2, by omega, by go_num, hgl, hb, HN⟩, rfl⟩)); (case measure => (simp [intOf]; omega)))
        · have HN := Lib.hid (HP.out.over (by have := Hl.out; omega) HM.out)
          go_wp2
          first | (refine ⟨⟨k + 1, o', by omega, by go_num, hgl, hb, HN⟩, ?_⟩; (simp [intOf]; omega)) | (go_roundw; (case rel => first | exact ⟨k + 1, o', by omega, by go_num, hgl, hb, HN⟩ | ((try refine ⟨trivial, ?_⟩); (repeat apply Exists.intro); exact ⟨⟨k + 1, o', by omega, by go_num, hgl, hb, HN⟩, rfl⟩)); (case measure => (simp [intOf]; omega)))
    · obtain rfl : o = UndB l a := HM.out.und (by have := Hl.out; omega)
      go_wp2
      go_ret
      exact ⟨_, rfl, hgl, hb⟩

theorem RdRole.drewN {w : World} {A : Option Addr} {n : Nat} {l : List DRole} (h : RdRole w A n l) (m : Nat) : RdRole (w.drewN m) A n l := h.below (below_drewN (Below.refl _ _) m)
noncomputable def rolesB (l : List DRole) : Bool := rolesBy nameB l
set_option maxRecDepth 100000 in
set_option maxHeartbeats 1500000 in
theorem s_l28Roles (A : Option Addr) (n c : Nat) (l : List DRole) (w : World) (hr : RdRole w A n l) (hn : n ≤ 1048576) (hg : ∀ x ∈ l, x.good) (hs : sumRole l ≤ 1048576) :
    Calls Try.prog 54 #[.slice A n c] w (RetB (rolesB l) w) := by
  have Hl := Lib.hid hr.len
  have HG := Lib.hid hg; clear hg
  have HS := Lib.hid hs; clear hs
  have bad : Hid (∀ i, ¬ RoleOk nameB l i → rolesB l = false) := Lib.hid (fun i h => rolesBy_bad h)
  by_cases h12 : 12 < n
  · have E : Hid (rolesB l = false) := Lib.hid (rolesBy_long (by have := Hl.out; omega))
    go_enter Try.func54, Try.ntmps54
    go_wp2
    go_ret
    exact ⟨ret_bool E.out.symm, Below.refl _ _⟩
  · go_enter Try.func54, Try.ntmps54
    go_wp2_with fail
    go_loopw [3] (fun i wr => ∃ k : Nat, k ≤ n ∧ i = .int .i64 k ∧ Below w.heap.size w wr ∧ Hid (∀ i, i < k → RoleOk nameB l i)) (fun i _ => n - (intOf i).toNat)
    case atStart => exact ⟨0, Nat.zero_le _, rfl, Below.refl _ _, Lib.hid (fun i h => absurd h (Nat.not_lt_zero _))⟩
    case round =>
      obtain ⟨k, hk, rfl, hb, HH⟩ := hrel
      by_cases hlt : k < n
      · obtain ⟨b, off, x, A', n', c', rfl, hx, hc, hru⟩ := hr.get hlt
        have HX := Lib.hid hx
        have hc0 := range_below (B := 0) hc hb 0 _ rfl
        simp only [Nat.add_zero] at hc0
        have HR := Lib.hid hru
        have HC := Lib.hid hc
        have hgx := HG.out x (mem_of_get hx)
        have hnn : n' ≤ 1048576 := by rw [← hru.1]; exact under_le (mem_of_get hx) HS.out
        have HN : Hid (∀ W, Calls Try.prog 86 #[.string x.name] W fun e w' => e = .returned (.bool (nameB x.name)) ∧ W = w') := Lib.hid (fun W => s_l01Name x.name W hgx.1)
        clear hx hru hgx hc
        rcases h1 : nameB x.name with _ | _
        · have E : Hid (rolesB l = false) := Lib.hid (bad.out k (RoleOk.bad_name HX.out h1))
          have C0 : ∀ W, Calls Try.prog 86 #[.string x.name] W fun e w' => e = .returned (.bool false) ∧ W = w' := fun W => by have := HN.out W; rw [h1] at this; exact this
          clear h1
          go_wp2_with fail
          go_quiet (first | (go_at_call 86; with_reducible exact quiet_left (C0 _)))
          go_wp2
          go_ret
          exact ⟨ret_bool E.out.symm, below_drewN hb _⟩
        · have H1 := Lib.hid h1
          have C0 : ∀ W, Calls Try.prog 86 #[.string x.name] W fun e w' => e = .returned (.bool true) ∧ W = w' := fun W => by have := HN.out W; rw [h1] at this; exact this
          clear h1
          match k, hk, hlt, HX, HH, HC, hc0 with
          | 0, hk, hlt, HX, HH, HC, hc0 =>
            rw [Nat.zero_mul, Nat.add_zero] at hc0
            go_wp2_with fail
            go_quiet (first | (go_at_call 86; with_reducible exact quiet_left (C0 _)))
            go_wp2_with fail
            go_loopw [4] (fun i wr => ∃ m : Nat, m ≤ n' ∧ i = .int .i64 m ∧ Below w.heap.size w wr ∧ Hid (∀ (j : Nat) u, j < m → x.under[j]? = some u → (∃ y : Nat, fnd l u = y) ∧ ∀ v, 0 < j → x.under[j - 1]? = some v → Op.bytesLess v.toList u.toList = true)) (fun i _ => n' - (intOf i).toNat)
            case atStart => exact ⟨0, Nat.zero_le _, rfl, below_drewN hb _, Lib.hid (fun j u h => absurd h (Nat.not_lt_zero _))⟩
            case round =>
              clear hb hc0 C0
              obtain ⟨m, hm, rfl, hb, HI⟩ := hrel
              have hc1 := range_below (B := 0) HC.out hb 1 _ rfl
              rw [Nat.zero_mul, Nat.add_zero] at hc1
              by_cases hmn : m < n'
              · obtain ⟨b2, off2, u, rfl, hu, hcu⟩ := HR.out.get hmn
                have HCU := Lib.hid hcu
                have hcu0 := range_below (B := 0) hcu hb 0 (.string u) rfl
                simp only [strE, Nat.mul_one, Nat.add_zero] at hcu0
                have Hu := Lib.hid hu
                clear hcu hu
                have HF : Hid (∀ q, Calls Try.prog 62 #[.slice (some ⟨b, off, none⟩) n c, .string u] (wr.drewN q) fun e w' => e = .returned (.int .i64 (fnd l u)) ∧ wr.drewN q = w') := Lib.hid (fun q => s_l28Find _ n c l u _ ((hr.below hb).drewN q) hn)
                rcases fnd_cases l u with ⟨hf, _⟩ | ⟨y, _, hf, _, _⟩
                · have E : Hid (rolesB l = false) := Lib.hid (bad.out _ (RoleOk.bad_under HX.out Hu.out hf))
                  have C1 : ∀ q, Calls Try.prog 62 #[.slice (some ⟨b, off, none⟩) n c, .string u] (wr.drewN q) fun e w' => e = .returned (.int .i64 (-1)) ∧ wr.drewN q = w' := fun q => by have := HF.out q; rw [hf] at this; exact this
                  clear hf
                  go_wp2_with fail
                  go_quiet (first | (go_at_call 62; with_reducible exact quiet_left (C1 _)))
                  go_wp2
                  go_ret
                  exact ⟨ret_bool E.out.symm, below_drewN hb _⟩
                · have Hf := Lib.hid hf
                  have C1 : ∀ q, Calls Try.prog 62 #[.slice (some ⟨b, off, none⟩) n c, .string u] (wr.drewN q) fun e w' => e = .returned (.int .i64 (y : Int)) ∧ wr.drewN q = w' := fun q => by have := HF.out q; rw [hf] at this; exact this
                  have hyn : y ≤ 1048576 := by have := fnd_lt hf; have := Hl.out; omega
                  have hyd : decide ((y : Int) < 0) = false := decide_eq_false (by omega)
                  clear hf
                  match m, hm, hmn, Hu, HI, hcu0 with
                  | 0, hm, hmn, Hu, HI, hcu0 =>
                    try rw [Nat.add_zero] at hcu0
                    have HN : Hid (∀ (j : Nat) u, j < 1 → x.under[j]? = some u → (∃ y : Nat, fnd l u = y) ∧ ∀ v, 0 < j → x.under[j - 1]? = some v → Op.bytesLess v.toList u.toList = true) := Lib.hid (fun j u' hj hu' => by
                      obtain rfl : j = 0 := by omega
                      rw [Hu.out] at hu'
                      cases hu'
                      exact ⟨⟨y, Hf.out⟩, fun v h => absurd h (Nat.not_lt_zero _)⟩)
                    go_wp2_with fail
                    go_quiet (first | (go_at_call 62; with_reducible exact quiet_left (C1 _)))
                    go_wp2
                    first | (refine ⟨⟨1, by omega, by go_num, below_drewN hb _, HN⟩, ?_⟩; (simp [intOf]; omega)) | (go_roundw; (case rel => first | exact ⟨1, by omega, by go_num, below_drewN hb _, HN⟩ | ((try refine ⟨trivial, ?_⟩); (repeat apply Exists.intro); exact ⟨⟨1, by omega, by go_num, below_drewN hb _, HN⟩, rfl⟩)); (case measure => (simp [intOf]; omega)))
                  | m' + 1, hm, hmn, Hu, HI, hcu0 =>
                    obtain ⟨v, hv⟩ : ∃ v, x.under[m']? = some v := ⟨_, List.getElem?_eq_getElem (by have := HR.out.1; omega)⟩
                    obtain ⟨b3, off3, v', hA3, hv', hcv⟩ := HR.out.get (k := m') (by omega)
                    rw [hv] at hv'
                    cases hv'
                    cases hA3
                    have hcv0 := range_below (B := 0) hcv hb 0 (.string v) rfl
                    simp only [strE, Nat.mul_one, Nat.add_zero] at hcv0
                    have Hv := Lib.hid hv
                    clear hcv hv
                    rcases hlu : Op.bytesLess v.toList u.toList with _ | _
                    · have E : Hid (rolesB l = false) := Lib.hid (bad.out _ (RoleOk.bad_order HX.out Hu.out (Nat.succ_pos _) (by rw [Nat.add_sub_cancel]; exact Hv.out) hlu))
                      go_wp2_with fail
                      go_quiet (first | (go_at_call 62; with_reducible exact quiet_left (C1 _)))
                      go_wp2
                      go_ret
                      exact ⟨ret_bool E.out.symm, below_drewN hb _⟩
                    · have HN : Hid (∀ (j : Nat) u, j < m' + 2 → x.under[j]? = some u → (∃ y : Nat, fnd l u = y) ∧ ∀ v, 0 < j → x.under[j - 1]? = some v → Op.bytesLess v.toList u.toList = true) := Lib.hid (fun j u' hj hu' => by
                        rcases Nat.lt_or_ge j (m' + 1) with h | h
                        · exact HI.out j u' h hu'
                        · obtain rfl : j = m' + 1 := by omega
                          rw [Hu.out] at hu'
                          cases hu'
                          refine ⟨⟨y, Hf.out⟩, fun v' _ hv' => ?_⟩
                          rw [Nat.add_sub_cancel, Hv.out] at hv'
                          cases hv'
                          exact hlu)
                      go_wp2_with fail
                      go_quiet (first | (go_at_call 62; with_reducible exact quiet_left (C1 _)))
                      go_wp2
                      first | (refine ⟨⟨m' + 2, by omega, by go_num, below_drewN hb _, HN⟩, ?_⟩; (simp [intOf]; omega)) | (go_roundw; (case rel => first | exact ⟨m' + 2, by omega, by go_num, below_drewN hb _, HN⟩ | ((try refine ⟨trivial, ?_⟩); (repeat apply Exists.intro); exact ⟨⟨m' + 2, by omega, by go_num, below_drewN hb _, HN⟩, rfl⟩)); (case measure => (simp [intOf]; omega)))
              · have HN : Hid (∀ i, i < 0 + 1 → RoleOk nameB l i) := Lib.hid (fun i hi => by
                  rcases Nat.lt_or_ge i (0) with h | h
                  · exact HH.out i h
                  · obtain rfl : i = 0 := by omega
                    exact RoleOk.mk HX.out H1.out (fun y h => absurd h (Nat.not_lt_zero _)) fun j u hu => HI.out j u (by have := (List.getElem?_eq_some_iff.1 hu).1; have := HR.out.1; omega) hu)
                go_wp2
                first | (refine ⟨⟨0 + 1, by omega, by go_num, hb, HN⟩, ?_⟩; (simp [intOf]; omega)) | (go_roundw; (case rel => first | exact ⟨0 + 1, by omega, by go_num, hb, HN⟩ | ((try refine ⟨trivial, ?_⟩); (repeat apply Exists.intro); exact ⟨⟨0 + 1, by omega, by go_num, hb, HN⟩, rfl⟩)); (case measure => (simp [intOf]; omega)))
          | j + 1, hk, hlt, HX, HH, HC, hc0 =>
            obtain ⟨bp, offp, p, Ap, np, cp, hAp, hp, hcp, _⟩ := hr.get (k := j) (by omega)
            cases hAp
            have hp0 := range_below (B := 0) hcp hb 0 _ rfl
            simp only [Nat.add_zero] at hp0
            have HP := Lib.hid hp
            clear hp hcp
            rcases hlp : Op.bytesLess p.name.toList x.name.toList with _ | _
            · have E : Hid (rolesB l = false) := Lib.hid (bad.out _ (RoleOk.bad_prev HX.out (Nat.succ_pos _) (by rw [Nat.add_sub_cancel]; exact HP.out) hlp))
              go_wp2_with fail
              go_quiet (first | (go_at_call 86; with_reducible exact quiet_left (C0 _)))
              go_wp2
              go_ret
              exact ⟨ret_bool E.out.symm, below_drewN hb _⟩
            · have HL := Lib.hid hlp
              go_wp2_with fail
              go_quiet (first | (go_at_call 86; with_reducible exact quiet_left (C0 _)))
              clear hlp hp0
              go_wp2_with fail
              go_loopw [4] (fun i wr => ∃ m : Nat, m ≤ n' ∧ i = .int .i64 m ∧ Below w.heap.size w wr ∧ Hid (∀ (j : Nat) u, j < m → x.under[j]? = some u → (∃ y : Nat, fnd l u = y) ∧ ∀ v, 0 < j → x.under[j - 1]? = some v → Op.bytesLess v.toList u.toList = true)) (fun i _ => n' - (intOf i).toNat)
              case atStart => exact ⟨0, Nat.zero_le _, rfl, below_drewN hb _, Lib.hid (fun j u h => absurd h (Nat.not_lt_zero _))⟩
              case round =>
                clear hb hc0 C0
                obtain ⟨m, hm, rfl, hb, HI⟩ := hrel
                have hc1 := range_below (B := 0) HC.out hb 1 _ rfl
                by_cases hmn : m < n'
                · obtain ⟨b2, off2, u, rfl, hu, hcu⟩ := HR.out.get hmn
                  have HCU := Lib.hid hcu
                  have hcu0 := range_below (B := 0) hcu hb 0 (.string u) rfl
                  simp only [strE, Nat.mul_one, Nat.add_zero] at hcu0
                  have Hu := Lib.hid hu
                  clear hcu hu
                  have HF : Hid (∀ q, Calls Try.prog 62 #[.slice (some ⟨b, off, none⟩) n c, .string u] (wr.drewN q) fun e w' => e = .returned (.int .i64 (fnd l u)) ∧ wr.drewN q = w') := Lib.hid (fun q => s_l28Find _ n c l u _ ((hr.below hb).drewN q) hn)
                  rcases fnd_cases l u with ⟨hf, _⟩ | ⟨y, _, hf, _, _⟩
                  · have E : Hid (rolesB l = false) := Lib.hid (bad.out _ (RoleOk.bad_under HX.out Hu.out hf))
                    have C1 : ∀ q, Calls Try.prog 62 #[.slice (some ⟨b, off, none⟩) n c, .string u] (wr.drewN q) fun e w' => e = .returned (.int .i64 (-1)) ∧ wr.drewN q = w' := fun q => by have := HF.out q; rw [hf] at this; exact this
                    clear hf
                    go_wp2_with fail
                    go_quiet (first | (go_at_call 62; with_reducible exact quiet_left (C1 _)))
                    go_wp2
                    go_ret
                    exact ⟨ret_bool E.out.symm, below_drewN hb _⟩
                  · have Hf := Lib.hid hf
                    have C1 : ∀ q, Calls Try.prog 62 #[.slice (some ⟨b, off, none⟩) n c, .string u] (wr.drewN q) fun e w' => e = .returned (.int .i64 (y : Int)) ∧ wr.drewN q = w' := fun q => by have := HF.out q; rw [hf] at this; exact this
                    have hyn : y ≤ 1048576 := by have := fnd_lt hf; have := Hl.out; omega
                    have hyd : decide ((y : Int) < 0) = false := decide_eq_false (by omega)
                    clear hf
                    match m, hm, hmn, Hu, HI, hcu0 with
                    | 0, hm, hmn, Hu, HI, hcu0 =>
                      try rw [Nat.add_zero] at hcu0
                      have HN : Hid (∀ (j : Nat) u, j < 1 → x.under[j]? = some u → (∃ y : Nat, fnd l u = y) ∧ ∀ v, 0 < j → x.under[j - 1]? = some v → Op.bytesLess v.toList u.toList = true) := Lib.hid (fun j u' hj hu' => by
                        obtain rfl : j = 0 := by omega
                        rw [Hu.out] at hu'
                        cases hu'
                        exact ⟨⟨y, Hf.out⟩, fun v h => absurd h (Nat.not_lt_zero _)⟩)
                      go_wp2_with fail
                      go_quiet (first | (go_at_call 62; with_reducible exact quiet_left (C1 _)))
                      go_wp2
                      first | (refine ⟨⟨1, by omega, by go_num, below_drewN hb _, HN⟩, ?_⟩; (simp [intOf]; omega)) | (go_roundw; (case rel => first | exact ⟨1, by omega, by go_num, below_drewN hb _, HN⟩ | ((try refine ⟨trivial, ?_⟩); (repeat apply Exists.intro); exact ⟨⟨1, by omega, by go_num, below_drewN hb _, HN⟩, rfl⟩)); (case measure => (simp [intOf]; omega)))
                    | m' + 1, hm, hmn, Hu, HI, hcu0 =>
                      obtain ⟨v, hv⟩ : ∃ v, x.under[m']? = some v := ⟨_, List.getElem?_eq_getElem (by have := HR.out.1; omega)⟩
                      obtain ⟨b3, off3, v', hA3, hv', hcv⟩ := HR.out.get (k := m') (by omega)
                      rw [hv] at hv'
                      cases hv'
                      cases hA3
                      have hcv0 := range_below (B := 0) hcv hb 0 (.string v) rfl
                      simp only [strE, Nat.mul_one, Nat.add_zero] at hcv0
                      have Hv := Lib.hid hv
                      clear hcv hv
                      rcases hlu : Op.bytesLess v.toList u.toList with _ | _
                      · have E : Hid (rolesB l = false) := Lib.hid (bad.out _ (RoleOk.bad_order HX.out Hu.out (Nat.succ_pos _) (by rw [Nat.add_sub_cancel]; exact Hv.out) hlu))
                        go_wp2_with fail
                        go_quiet (first | (go_at_call 62; with_reducible exact quiet_left (C1 _)))
                        go_wp2
                        go_ret
                        exact ⟨ret_bool E.out.symm, below_drewN hb _⟩
                      · have HN : Hid (∀ (j : Nat) u, j < m' + 2 → x.under[j]? = some u → (∃ y : Nat, fnd l u = y) ∧ ∀ v, 0 < j → x.under[j - 1]? = some v → Op.bytesLess v.toList u.toList = true) := Lib.hid (fun j u' hj hu' => by
                          rcases Nat.lt_or_ge j (m' + 1) with h | h
                          · exact HI.out j u' h hu'
                          · obtain rfl : j = m' + 1 := by omega
                            rw [Hu.out] at hu'
                            cases hu'
                            refine ⟨⟨y, Hf.out⟩, fun v' _ hv' => ?_⟩
                            rw [Nat.add_sub_cancel, Hv.out] at hv'
                            cases hv'
                            exact hlu)
                        go_wp2_with fail
                        go_quiet (first | (go_at_call 62; with_reducible exact quiet_left (C1 _)))
                        go_wp2
                        first | (refine ⟨⟨m' + 2, by omega, by go_num, below_drewN hb _, HN⟩, ?_⟩; (simp [intOf]; omega)) | (go_roundw; (case rel => first | exact ⟨m' + 2, by omega, by go_num, below_drewN hb _, HN⟩ | ((try refine ⟨trivial, ?_⟩); (repeat apply Exists.intro); exact ⟨⟨m' + 2, by omega, by go_num, below_drewN hb _, HN⟩, rfl⟩)); (case measure => (simp [intOf]; omega)))
                · have HN : Hid (∀ i, i < j + 1 + 1 → RoleOk nameB l i) := Lib.hid (fun i hi => by
                    rcases Nat.lt_or_ge i (j + 1) with h | h
                    · exact HH.out i h
                    · obtain rfl : i = j + 1 := by omega
                      exact RoleOk.mk HX.out H1.out (fun y _ hy => by rw [Nat.add_sub_cancel, HP.out] at hy; cases hy; exact HL.out) fun j u hu => HI.out j u (by have := (List.getElem?_eq_some_iff.1 hu).1; have := HR.out.1; omega) hu)
                  go_wp2
                  first | (refine ⟨⟨j + 1 + 1, by omega, by go_num, hb, HN⟩, ?_⟩; (simp [intOf]; omega)) | (go_roundw; (case rel => first | exact ⟨j + 1 + 1, by omega, by go_num, hb, HN⟩ | ((try refine ⟨trivial, ?_⟩); (repeat apply Exists.intro); exact ⟨⟨j + 1 + 1, by omega, by go_num, hb, HN⟩, rfl⟩)); (case measure => (simp [intOf]; omega)))
      · have HOK : Hid (∀ i, RoleOk nameB l i) := Lib.hid (fun i => by
          rcases Nat.lt_or_ge i k with h | h
          · exact HH.out i h
          · exact RoleOk.none (by have := Hl.out; omega))
        go_wp2_with fail
        go_loopw [5] (fun i wr => ∃ k : Nat, k ≤ n ∧ i = .int .i64 k ∧ Below w.heap.size w wr ∧ Hid (∀ i, i < k → ¬ Reach l i i)) (fun i _ => n - (intOf i).toNat)
        case atStart => exact ⟨0, Nat.zero_le _, rfl, hb, Lib.hid (fun i h => absurd h (Nat.not_lt_zero _))⟩
        case round =>
          clear hb
          obtain ⟨q, hq, rfl, hb, HQ⟩ := hrel
          by_cases hqn : q < n
          · go_wp2_with fail
            refine (s_l28Under A n c q l _ (hr.below hb) hn (roles_under HOK.out) HS.out).mono ?_
            rintro e w1 ⟨g, rfl, hgl, hb1⟩
            obtain ⟨bv, hbv⟩ : ∃ bv, (UndB l q)[q]? = some bv := ⟨_, List.getElem?_eq_getElem (by rw [UndB_len]; have := Hl.out; omega)⟩
            have hcb := hgl.get1 (E := boolE) rfl (u := .bool bv) rfl hbv
            have hb2 := hb.trans (hb1.mono hb.size)
            clear hgl hb1
            cases bv with
            | true =>
              have E : Hid (rolesB l = false) := Lib.hid (rolesBy_round ((UndB_get (by have := Hl.out; omega)).1 hbv))
              go_wp2
              go_ret
              exact ⟨ret_bool E.out.symm, hb2⟩
            | false =>
              have HN : Hid (∀ i, i < q + 1 → ¬ Reach l i i) := Lib.hid (fun i hi => by
                rcases Nat.lt_or_ge i q with h | h
                · exact HQ.out i h
                · obtain rfl : i = q := by omega
                  exact (UndB_not (by have := Hl.out; omega)).1 hbv)
              clear hbv
              go_wp2
              first | (refine ⟨⟨q + 1, by omega, by go_num, hb2, HN⟩, ?_⟩; (simp [intOf]; omega)) | (go_roundw; (case rel => first | exact ⟨q + 1, by omega, by go_num, hb2, HN⟩ | ((try refine ⟨trivial, ?_⟩); (repeat apply Exists.intro); exact ⟨⟨q + 1, by omega, by go_num, hb2, HN⟩, rfl⟩)); (case measure => (simp [intOf]; omega)))
          · have E : Hid (rolesB l = true) := Lib.hid (rolesBy_true (by have := Hl.out; omega) HOK.out (fun i hi => HQ.out i (by have := Hl.out; omega)))
            go_wp2
            go_ret
            exact ⟨ret_bool E.out.symm, hb⟩
theorem S_ValidRoles (A : Option Addr) (n c : Nat) (l : List DRole) (w : World) (hr : RdRole w A n l) (hn : n ≤ 1048576) (hg : ∀ x ∈ l, x.good) (hs : sumRole l ≤ 1048576) :
    Calls Try.prog 15 #[.slice A n c] w (RetB (rolesB l) w) := by
  go_enter Try.func15, Try.ntmps15
  go_wp2_with fail
  refine (s_l28Roles A n c l _ hr hn hg hs).mono ?_
  rintro e w1 ⟨rfl, hb⟩
  go_wp2
  go_ret
  exact ⟨rfl, hb⟩

end Go.Proofs.Ytepegiklnhoobaa
