/- What a role may do: the program's set of rights. -/
import Derived.Test.YtepegiklnhoobaaRows
import Derived.Test.YtepegiklnhoobaaMayLaw
import Derived.Test.YtepegiklnhoobaaMapR
import Derived.Test.YtepegiklnhoobaaRolesI
import Derived.Test.YtepegiklnhoobaaGrants
namespace Go.Proofs.Ytepegiklnhoobaa
set_option linter.unusedVariables false
set_option linter.unusedSimpArgs false
set_option linter.unusedSectionVars false
open Go.RowKit

theorem name_small {s : ByteArray} (h : nameB s = true) : s.size ≤ maxLen := by
  unfold nameB at h
  rw [Bool.and_eq_true, Bool.and_eq_true] at h
  have := of_decide_eq_true h.2.2
  unfold maxLen
  omega
theorem okG_object {rl : List DRole} {x : DGrant} (h : okG rl x = true) : x.fObject.size ≤ maxLen ∧ 1 ≤ x.fAction ∧ x.fAction ≤ 3 ∧ 0 ≤ fnd rl x.fRole := by
  unfold okG at h
  rw [Bool.and_eq_true, Bool.and_eq_true, decide_eq_true_eq] at h
  have := inB_spec h.2.2
  exact ⟨name_small h.2.1, this.1, this.2, h.1⟩
theorem wf64_small {n : Int} (h : -9223372036854775808 ≤ n ∧ n ≤ 9223372036854775807) : (Lit.int .i64 n).wf = true := by
  simp [Lit.wf, IntKind.min, IntKind.max, IntKind.signed, IntKind.bits]
  omega

set_option maxRecDepth 100000 in
set_option maxHeartbeats 4000000 in
theorem i_rightsOf (A1 : Option Addr) (n1 c1 : Nat) (rl : List DRole) (A : Option Addr) (n c : Nat) (l : List DGrant) (a : Nat) (nm : ByteArray) (w : World) (hrl : RdRole w A1 n1 rl) (hn1 : n1 ≤ 1048576) (hs1 : sumRole rl ≤ 1048576)
    (hr : Rd grantE w A n l) (hn : n ≤ 1048576) (hok : ∀ i, RoleOk nameB rl i) (hgo : ∀ x ∈ l, okG rl x = true) (ha : fnd rl nm = a) :
    Calls Try.prog 71 #[.slice A1 n1 c1, .slice A n c, .string nm] w fun e w' => ∃ b cnt, e = .returned (.map (some b)) ∧ RMap w' b cnt (rightsT rl a l) ∧ Below w.heap.size w w' := by
  have Hl := Lib.hid hr.1
  have Hl1 := Lib.hid hrl.len
  have HGO := Lib.hid hgo
  have HA := Lib.hid ha
  have hlen : Hid ((undN rl a).length ≤ n1) := Lib.hid (by have := undTo_len rl (UndB rl a) rl.length; have := Hl1.out; unfold undN; omega)
  have hund := i_under A1 n1 c1 a rl nm w hrl hn1 hok hs1 ha
  clear hok hgo ha
  obtain ⟨i0, hi, hz0, hz1, hz2⟩ := info_parts Try.info_str
  have hmm := @run_makeMap Try.prog
  go_enter Try.func71, Try.ntmps71
  go_wp2_with fail
  refine hund.mono ?_
  rintro e w1 ⟨gu, mu, cu, rfl, hgu, hb1⟩
  have hmu := hgu.len
  have hlu := hlen.out
  clear hund
  obtain ⟨U, hU⟩ : ∃ U, undN rl a = U := ⟨_, rfl⟩
  have HU := Lib.hid hU
  rw [hU] at hgu hmu hlu
  clear hU
  subst hmu
  go_wp2_with (at_builtin; refine wpList_push strE rfl _ _ 29 rfl w.heap.size 9 i0 _ 16 Try.underlying29 hi hz0 hz1 hz2 rfl (.slice (some ⟨gu, 0, none⟩) U.length cu) U nm rfl (hgu.alloc _) w1.heap.size rfl (range_new _ _ _) (by omega) (by decide) w (hb1.alloc hb1.size _) (by have := hb1.size; simp; omega) ?_; intro NA nc w2 hgn hb2 hs2)
  have hmap := RMap.made w2
  have hgn3 := hgn.alloc (.map #[] 0)
  have hb3 := hb2.alloc hs2 (.map #[] 0)
  obtain ⟨gn, rfl⟩ := hgn.place (by omega)
  have hgnlt := (hgn.lt gn rfl).2
  obtain ⟨bm, hbm⟩ : ∃ bm, w2.heap.size = bm := ⟨_, rfl⟩
  rw [hbm] at hmap hgnlt hs2 ⊢
  have hne : gn ≠ bm := by omega
  clear hgn hb2 hgu hb1 hmm hbm
  go_loopw [21] (fun i wr => ∃ (k cnt : Nat), k ≤ n ∧ i = .int .i64 k ∧ Below w.heap.size w wr ∧ GL strE 9 w.heap.size wr (.slice (some ⟨gn, 0, none⟩) (U.length + 1) nc) (U ++ [nm]) ∧ RMap wr bm cnt (rightsT rl a (l.take k)) ∧ cnt ≤ 3 * k) (fun i _ => n - (intOf i).toNat)
  case atStart => exact ⟨0, 0, Nat.zero_le _, rfl, hb3, hgn3, hmap, Nat.le_refl _⟩
  case round =>
    clear hb3 hgn3 hmap
    obtain ⟨k, cnt, hk, rfl, hb, hgl, hmap, hcnt⟩ := hrel
    by_cases hlt : k < n
    · obtain ⟨b, off, x, rfl, hx, hc⟩ := hr.get hlt
      have hcr := range_below (B := 0) hc hb
      have hc0 := hcr 0 (.string x.fRole) rfl
      have hc1 := hcr 1 (.string x.fObject) rfl
      have hc2 := hcr 2 (.int .i64 x.fAction) rfl
      simp only [grantE, Nat.add_zero] at hc0 hc1 hc2
      have HX := Lib.hid hx
      obtain ⟨ho1, ho2, ho3, ho4⟩ := okG_object (HGO.out x (mem_of_get hx))
      have hhold := names_hold (rl := rl) (a := a) (nm := nm) (r := x.fRole) HA.out ho4
      rw [HU.out] at hhold
      clear hcr hc hx ho4
      have hcx := range_new wr #[.string x.fRole, .string x.fObject, .int .i64 x.fAction] 50
      have hb0 : Below w.heap.size w (wr.alloc (.cells #[.string x.fRole, .string x.fObject, .int .i64 x.fAction] 50)) := hb.alloc hb.size _
      have hgl0 := hgl.alloc (.cells #[.string x.fRole, .string x.fObject, .int .i64 x.fAction] 50)
      have hmap0 := hmap.alloc (.cells #[.string x.fRole, .string x.fObject, .int .i64 x.fAction] 50)
      have hblt := hmap.lt
      obtain ⟨W0, hW0⟩ : ∃ W0, wr.alloc (.cells #[.string x.fRole, .string x.fObject, .int .i64 x.fAction] 50) = W0 := ⟨_, rfl⟩
      rw [hW0] at hcx hb0 hgl0 hmap0
      have hx0 := hcx 0 (.string x.fRole) rfl
      have hx1 := hcx 1 (.string x.fObject) rfl
      have hx2 := hcx 2 (.int .i64 x.fAction) rfl
      simp only [Nat.zero_add] at hx0 hx1 hx2
      have hcon := i_ContainsS (some ⟨gn, 0, none⟩) (U.length + 1) nc (U ++ [nm]) x.fRole W0 hgl0.rd (by omega)
      rw [hhold] at hcon
      rcases hh : holdsR rl a x.fRole with _ | _
      · have HK := Lib.hid (rightsT_out HX.out hh)
        rw [hh] at hcon
        clear hh hhold hgl hmap
        go_wp2_with fail
        try rw [hW0]
        clear hW0 hcx
        refine hcon.mono ?_
        rintro e w3 ⟨rfl, rfl⟩
        clear hcon
        go_wp2
        first | (refine ⟨⟨k + 1, cnt, by omega, by go_num, hb0, hgl0, by rw [HK.out]; exact hmap0, by omega⟩, ?_⟩; (simp [intOf]; omega)) | (go_roundw; (case rel => first | exact ⟨k + 1, cnt, by omega, by go_num, hb0, hgl0, by rw [HK.out]; exact hmap0, by omega⟩ | ((try refine ⟨trivial, ?_⟩); (repeat apply Exists.intro); exact ⟨⟨k + 1, cnt, by omega, by go_num, hb0, hgl0, by rw [HK.out]; exact hmap0, by omega⟩, rfl⟩)); (case measure => (simp [intOf]; omega)))
      · have HK := Lib.hid (rightsT_in HX.out hh)
        rw [hh] at hcon
        clear hh hhold hgl hmap
        go_wp2_with fail
        try rw [hW0]
        clear hW0 hcx
        refine hcon.mono ?_
        rintro e w3 ⟨rfl, rfl⟩
        clear hcon hc0 hc1 hc2 hx0
        go_wp2_with fail
        obtain ⟨hq, hqe⟩ : ∃ hq, wr.heap.size = hq := ⟨_, rfl⟩
        rw [hqe] at hx1 hx2 hblt ⊢
        clear hb hqe
        obtain ⟨m0, hma, hmb, hm0⟩ : ∃ m0 : Nat, x.fAction ≤ m0 ∧ (m0 : Int) ≤ x.fAction ∧ Hid (x.fAction = m0) := ⟨x.fAction.toNat, by omega, by omega, Lib.hid (by omega)⟩
        go_loopw [11] (fun ac wr => ∃ (m cnt2 : Nat), ac = .int .i64 (m + 1) ∧ m ≤ m0 ∧ Below w.heap.size w wr ∧ wr.cell? ⟨hq, 1, none⟩ = some (.string x.fObject) ∧ wr.cell? ⟨hq, 2, none⟩ = some (.int .i64 x.fAction) ∧ GL strE 9 w.heap.size wr (.slice (some ⟨gn, 0, none⟩) (U.length + 1) nc) (U ++ [nm]) ∧ RMap wr bm cnt2 (rightsT rl a (l.take k) ++ actsOf x m) ∧ cnt2 ≤ 3 * k + m) (fun ac _ => m0 + 1 - (intOf ac).toNat)
        case atStart => exact ⟨0, cnt, by go_num, Nat.zero_le _, hb0, hx1, hx2, hgl0, by simpa [actsOf] using hmap0, by omega⟩
        case round =>
          clear hb0 hx1 hx2 hgl0 hmap0
          obtain ⟨m, cnt2, rfl, hm, hb, hx1, hx2, hgl, hmap, hcnt2⟩ := hrel
          by_cases hmm : m < m0
          · have hle : (m : Int) + 1 ≤ x.fAction := by omega
            have hokp : okRt (x.fObject, (m : Int) + 1) := ⟨ho1, wf64_small (by simp; omega)⟩
            have HS := Lib.hid (actsOf_succ x m)
            go_wp2_with (first
              | (at_mapUpdate; refine wpList_storeR rfl _ _ _ rfl bm cnt2 _ rfl hmap (by unfold maxLen; omega) (x.fObject, (m : Int) + 1) rfl rfl hokp ?_; intro w4 hmap4 ht4)
              | fail)
            have hx1' := touch_cell ht4 (by simp; omega) hx1
            have hx2' := touch_cell ht4 (by simp; omega) hx2
            have hgl4 := hgl.touch ht4 (fun k hk e => by cases hk; exact hne e)
            have hb4 := Below.touch hb ht4 (fun k hk => by rw [hk]; omega) hb.size
            have hmap5 : RMap w4 bm (cnt2 + 1) (rightsT rl a (l.take k) ++ actsOf x (m + 1)) := by rw [HS.out, ← List.append_assoc]; exact hmap4
            clear ht4 hmap4
            go_wp2
            first | (refine ⟨⟨m + 1, cnt2 + 1, by go_num, by omega, hb4, hx1', hx2', hgl4, hmap5, by omega⟩, ?_⟩; (simp [intOf]; omega)) | (go_roundw; (case rel => first | exact ⟨m + 1, cnt2 + 1, by go_num, by omega, hb4, hx1', hx2', hgl4, hmap5, by omega⟩ | ((try refine ⟨trivial, ?_⟩); (repeat apply Exists.intro); exact ⟨⟨m + 1, cnt2 + 1, by go_num, by omega, hb4, hx1', hx2', hgl4, hmap5, by omega⟩, rfl⟩)); (case measure => (simp [intOf]; omega)))
          · obtain rfl : m = m0 := by omega
            have hle : ¬ (m : Int) + 1 ≤ x.fAction := by omega
            have hmap5 : RMap wr bm cnt2 (rightsT rl a (l.take (k + 1))) := by rw [HK.out, hm0.out, Int.toNat_natCast]; exact hmap
            have hm3 : m ≤ 3 := by omega
            go_wp2
            first | (refine ⟨⟨k + 1, cnt2, by omega, by go_num, hb, hgl, hmap5, by omega⟩, ?_⟩; (simp [intOf]; omega)) | (go_roundw; (case rel => first | exact ⟨k + 1, cnt2, by omega, by go_num, hb, hgl, hmap5, by omega⟩ | ((try refine ⟨trivial, ?_⟩); (repeat apply Exists.intro); exact ⟨⟨k + 1, cnt2, by omega, by go_num, hb, hgl, hmap5, by omega⟩, rfl⟩)); (case measure => (simp [intOf]; omega)))
    · have E : Hid (l.take k = l) := Lib.hid (List.take_of_length_le (by have := Hl.out; omega))
      rw [E.out] at hmap
      go_wp2
      go_ret
      exact ⟨bm, cnt, rfl, hmap, hb⟩

end Go.Proofs.Ytepegiklnhoobaa
