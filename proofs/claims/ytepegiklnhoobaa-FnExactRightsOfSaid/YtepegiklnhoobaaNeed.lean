/- Grants that are needless. -/
import Derived.Test.YtepegiklnhoobaaRows
import Derived.Test.YtepegiklnhoobaaCardLaw
import Derived.Test.YtepegiklnhoobaaRevoke
import Derived.Deep.RegionHeld3
namespace Go.Proofs.Ytepegiklnhoobaa
set_option linter.unusedVariables false
set_option linter.unusedSimpArgs false
set_option linter.unusedSectionVars false
open Go.RowKit Go.Maps

set_option maxRecDepth 100000 in
theorem RMap.len {w : World} {b n : Nat} {L : List Rt} (h : RMap w b n L) (ty : TypeId) : (Builtin.len_ #[86] ty #[.map (some b)]).run Try.prog w = .ok (.int .i64 ((cardR L : Nat) : Int)) w := by
  have h1 := h.2.len Try.underlying86 ty
  rw [size_setOf _ _ (fun x hx => by
    obtain ⟨q, hq, rfl⟩ := List.mem_map.1 hx
    exact keyRt_lit (h.1 q hq))] at h1
  exact h1

theorem step_len {P : Program} {w : World} {ops : Array Oper} {o : Oper} {a : Act} {K : Act → World → Prop} {Q : Exit → Act → World → Prop} {E : Prop} (hgd : o.guard = none) (s : Operand) (t : TypeId)
    (ho : o.op = .call { callee := .builtin .len, args := #[s], argTypes := #[t] }) (v : Value) (hs : a.eval s = v) (k : Int)
    (hr : (Builtin.len_ #[t] o.type #[v]).run P w = .ok (.int .i64 k) w) (h : K (a.put o.dst (.int .i64 k)) w) :
    if Region.wanted o (yielded ops a.tmps) = true then Oper.wp P o a w K Q else E := by
  have hw : Region.wanted o (yielded ops a.tmps) = true := by simp [Region.wanted, hgd]
  rw [if_pos hw]
  unfold Oper.wp execOp
  simp only [ho, resolve, invoke, builtin, Sem.run_bind, Sem.run_pure, Result.andThen_ok, List.map_toArray, List.map_cons, List.map_nil, hs, hr]
  exact h

set_option maxRecDepth 100000 in
set_option maxHeartbeats 4000000 in
theorem i_sameRights1 (x : DRole) (Ax : Option Addr) (nx cx : Nat) (q1 q2 q3 j : Nat) (A1 : Option Addr) (n1 c1 : Nat) (rl : List DRole) (A : Option Addr) (n c : Nat) (l : List DGrant) (A' : Option Addr) (n' c' : Nat) (l' : List DGrant) (w : World)
    (hrl : RdRole w A1 n1 rl) (hn1 : n1 ≤ 1048576) (hs1 : sumRole rl ≤ 1048576) (hr : Rd grantE w A n l) (hn : n ≤ 1048576) (hr' : Rd grantE w A' n' l') (hn' : n' ≤ 1048576) (hok : ∀ i, RoleOk nameB rl i) (hgo : ∀ x ∈ l, okG rl x = true) (hgo' : ∀ x ∈ l', okG rl x = true)
    (hj : fnd rl x.name = j) (h1 : w.cell? ⟨q1, 0, none⟩ = some (.slice A1 n1 c1)) (h2 : w.cell? ⟨q2, 0, none⟩ = some (.slice A n c)) (h3 : w.cell? ⟨q3, 0, none⟩ = some (.slice A' n' c')) :
    Calls Try.prog 100 #[.agg #[.string x.name, .slice Ax nx cx], .pointer (some ⟨q1, 0, none⟩), .pointer (some ⟨q2, 0, none⟩), .pointer (some ⟨q3, 0, none⟩)] w fun e w' => e = .returned (.bool (!(decide (cardR (rightsT rl j l) = cardR (rightsT rl j l'))))) ∧ Below w.heap.size w w' := by
  have hcx := range_new w #[.string x.name, .slice Ax nx cx] 70
  have hb0 : Below w.heap.size w (w.alloc (.cells #[.string x.name, .slice Ax nx cx] 70)) := (Below.refl _ _).alloc (Nat.le_refl _) _
  obtain ⟨W0, hW0⟩ : ∃ W0, w.alloc (.cells #[.string x.name, .slice Ax nx cx] 70) = W0 := ⟨_, rfl⟩
  rw [hW0] at hcx hb0
  have hbd := hb0.drew
  have z0 : W0.drew.cell? ⟨w.heap.size, 0, none⟩ = some (.string x.name) := by have := hcx 0 _ rfl; simpa using this
  have z1 : W0.drew.cell? ⟨q1, 0, none⟩ = some (.slice A1 n1 c1) := cell_later hbd h1
  have z2 : W0.drew.cell? ⟨q2, 0, none⟩ = some (.slice A n c) := cell_later hbd h2
  have z3 : W0.drew.cell? ⟨q3, 0, none⟩ = some (.slice A' n' c') := cell_later hbd h3
  have HC : Hid (∀ a b : Nat, (((a : Int) != (b : Int)) = !(decide (a = b)))) := Lib.hid (fun a b => by
    by_cases h : a = b
    · subst h; simp
    · rw [decide_eq_false h]
      simp
      omega)
  clear hcx h1 h2 h3
  go_enter Try.func100, Try.ntmps100
  go_wp2_with fail
  try rw [hW0]
  clear hW0
  refine wp_region_held_drew (S := fun w' => w'.cell? ⟨w.heap.size, 0, none⟩ = some (.string x.name) ∧ w'.cell? ⟨q1, 0, none⟩ = some (.slice A1 n1 c1) ∧ w'.cell? ⟨q2, 0, none⟩ = some (.slice A n c) ∧ w'.cell? ⟨q3, 0, none⟩ = some (.slice A' n' c')) (by kernel_rfl) ⟨z0, z1, z2, z3⟩ (fun hHeld => ?_)
  refine wpAnyH_take (i := 0) (v := ?v1) rfl (by kernel_rfl) (by kernel_rfl) (by kernel_rfl) (fun _ _ _ h => h) (Or.inl ⟨by rfl, ?hy1⟩) (by assumption) ?_
  case hy1 => intro w hSw; (try dsimp only at hSw); go_simp; try with_reducible rfl
  try simp only [List.getElem_toArray, List.getElem_cons_succ, List.getElem_cons_zero, Act.put, List.setIfInBounds_toArray, List.set_cons_zero, List.set_cons_succ]
  refine wpAnyH_take (i := 1) (v := ?v2) rfl (by kernel_rfl) (by kernel_rfl) (by kernel_rfl) (fun _ _ _ h => h) (Or.inl ⟨by rfl, ?hy2⟩) (by assumption) ?_
  case hy2 => intro w hSw; (try dsimp only at hSw); go_simp; try with_reducible rfl
  try simp only [List.getElem_toArray, List.getElem_cons_succ, List.getElem_cons_zero, Act.put, List.setIfInBounds_toArray, List.set_cons_zero, List.set_cons_succ]
  refine wpAnyH_take (i := 2) (v := ?v3) rfl (by kernel_rfl) (by kernel_rfl) (by kernel_rfl) (fun _ _ _ h => h) (Or.inl ⟨by rfl, ?hy3⟩) (by assumption) ?_
  case hy3 => intro w hSw; (try dsimp only at hSw); go_simp; try with_reducible rfl
  try simp only [List.getElem_toArray, List.getElem_cons_succ, List.getElem_cons_zero, Act.put, List.setIfInBounds_toArray, List.set_cons_zero, List.set_cons_succ]
  refine wpAnyH_take (i := 3) (v := ?v4) rfl (by kernel_rfl) (by kernel_rfl) (by kernel_rfl) (fun _ _ _ h => h) (Or.inl ⟨by rfl, ?hy4⟩) (by assumption) ?_
  case hy4 => intro w hSw; (try dsimp only at hSw); go_simp; try with_reducible rfl
  try simp only [List.getElem_toArray, List.getElem_cons_succ, List.getElem_cons_zero, Act.put, List.setIfInBounds_toArray, List.set_cons_zero, List.set_cons_succ]
  refine wpAnyH_take (i := 6) (v := ?v5) rfl (by kernel_rfl) (by kernel_rfl) (by kernel_rfl) (fun _ _ _ h => h) (Or.inl ⟨by rfl, ?hy5⟩) (by assumption) ?_
  case hy5 => intro w hSw; (try dsimp only at hSw); go_simp; try with_reducible rfl
  try simp only [List.getElem_toArray, List.getElem_cons_succ, List.getElem_cons_zero, Act.put, List.setIfInBounds_toArray, List.set_cons_zero, List.set_cons_succ]
  refine wpAnyH_take (i := 7) (v := ?v6) rfl (by kernel_rfl) (by kernel_rfl) (by kernel_rfl) (fun _ _ _ h => h) (Or.inl ⟨by rfl, ?hy6⟩) (by assumption) ?_
  case hy6 => intro w hSw; (try dsimp only at hSw); go_simp; try with_reducible rfl
  try simp only [List.getElem_toArray, List.getElem_cons_succ, List.getElem_cons_zero, Act.put, List.setIfInBounds_toArray, List.set_cons_zero, List.set_cons_succ]
  refine wpAnyH_take (i := 8) (v := ?v7) rfl (by kernel_rfl) (by kernel_rfl) (by kernel_rfl) (fun _ _ _ h => h) (Or.inl ⟨by rfl, ?hy7⟩) (by assumption) ?_
  case hy7 => intro w hSw; (try dsimp only at hSw); go_simp; try with_reducible rfl
  try simp only [List.getElem_toArray, List.getElem_cons_succ, List.getElem_cons_zero, Act.put, List.setIfInBounds_toArray, List.set_cons_zero, List.set_cons_succ]
  refine wpAnyH_take (i := 9) (v := ?v8) rfl (by kernel_rfl) (by kernel_rfl) (by kernel_rfl) (fun _ _ _ h => h) (Or.inl ⟨by rfl, ?hy8⟩) (by assumption) ?_
  case hy8 => intro w hSw; (try dsimp only at hSw); go_simp; try with_reducible rfl
  try simp only [List.getElem_toArray, List.getElem_cons_succ, List.getElem_cons_zero, Act.put, List.setIfInBounds_toArray, List.set_cons_zero, List.set_cons_succ]
  refine wpAnyH_ready (rs := [4]) (by kernel_rfl) (by simp) ?_
  refine AllReadyH.cons rfl (fun K hK => ?_) AllReadyH.nil
  go_simp
  go_at_call 71
  refine (i_rightsOf A1 n1 c1 rl A n c l j x.name _ (hrl.below hbd) hn1 hs1 (hr.below hbd) hn hok hgo hj).mono ?_
  rintro e w3 ⟨b1, cnt1, rfl, hm1, hbc⟩
  have hl1 := hm1.len
  replace hbd := hbd.trans (hbc.mono hbd.size)
  replace z0 := cell_later hbc z0
  replace z1 := cell_later hbc z1
  replace z2 := cell_later hbc z2
  replace z3 := cell_later hbc z3
  clear hm1 hbc
  refine hK.out _ _ ⟨z0, z1, z2, z3⟩ (fun hHeld => ?_)
  clear hK K
  try simp only [List.getElem_toArray, List.getElem_cons_succ, List.getElem_cons_zero, Act.put, List.setIfInBounds_toArray, List.set_cons_zero, List.set_cons_succ]
  refine wpAnyH_ready (rs := [5]) (by kernel_rfl) (by simp) ?_
  refine AllReadyH.cons rfl (fun K hK => ?_) AllReadyH.nil
  refine step_len rfl _ _ rfl _ rfl _ (hl1 _) ?_
  refine hK.out _ _ ⟨z0, z1, z2, z3⟩ (fun hHeld => ?_)
  clear hK K
  try simp only [List.getElem_toArray, List.getElem_cons_succ, List.getElem_cons_zero, Act.put, List.setIfInBounds_toArray, List.set_cons_zero, List.set_cons_succ]
  refine wpAnyH_ready (rs := [10]) (by kernel_rfl) (by simp) ?_
  refine AllReadyH.cons rfl (fun K hK => ?_) AllReadyH.nil
  go_simp
  go_at_call 71
  refine (i_rightsOf A1 n1 c1 rl A' n' c' l' j x.name _ (hrl.below hbd) hn1 hs1 (hr'.below hbd) hn' hok hgo' hj).mono ?_
  rintro e w4 ⟨b2, cnt2, rfl, hm2, hbe⟩
  have hl2 := hm2.len
  replace hbd := hbd.trans (hbe.mono hbd.size)
  replace z0 := cell_later hbe z0
  replace z1 := cell_later hbe z1
  replace z2 := cell_later hbe z2
  replace z3 := cell_later hbe z3
  clear hm2 hbe
  refine hK.out _ _ ⟨z0, z1, z2, z3⟩ (fun hHeld => ?_)
  clear hK K
  try simp only [List.getElem_toArray, List.getElem_cons_succ, List.getElem_cons_zero, Act.put, List.setIfInBounds_toArray, List.set_cons_zero, List.set_cons_succ]
  refine wpAnyH_ready (rs := [11]) (by kernel_rfl) (by simp) ?_
  refine AllReadyH.cons rfl (fun K hK => ?_) AllReadyH.nil
  refine step_len rfl _ _ rfl _ rfl _ (hl2 _) ?_
  refine hK.out _ _ ⟨z0, z1, z2, z3⟩ (fun hHeld => ?_)
  clear hK K
  try simp only [List.getElem_toArray, List.getElem_cons_succ, List.getElem_cons_zero, Act.put, List.setIfInBounds_toArray, List.set_cons_zero, List.set_cons_succ]
  refine wpAnyH_take (i := 12) (v := ?v9) rfl (by kernel_rfl) (by kernel_rfl) (by kernel_rfl) (fun _ _ _ h => h) (Or.inl ⟨by rfl, ?hy9⟩) (by assumption) ?_
  case hy9 => intro w hSw; (try dsimp only at hSw); go_simp; try with_reducible rfl
  try simp only [List.getElem_toArray, List.getElem_cons_succ, List.getElem_cons_zero, Act.put, List.setIfInBounds_toArray, List.set_cons_zero, List.set_cons_succ]
  refine wpAnyH_take (i := 13) (v := ?v10) rfl (by kernel_rfl) (by kernel_rfl) (by kernel_rfl) (fun _ _ _ h => h) (Or.inl ⟨by rfl, ?hy10⟩) (by assumption) ?_
  case hy10 => intro w hSw; (try dsimp only at hSw); go_simp; try with_reducible rfl
  try simp only [List.getElem_toArray, List.getElem_cons_succ, List.getElem_cons_zero, Act.put, List.setIfInBounds_toArray, List.set_cons_zero, List.set_cons_succ]
  refine wpAnyH_done (by kernel_rfl) ?_ _
  all_goals
    go_wp2
    go_ret
    exact ⟨ret_bool (HC.out _ _), hbd⟩
theorem sameB_true {rl : List DRole} {l l' : List DGrant} : sameB rl l l' = true ↔ ∀ j, j < rl.length → cardR (rightsT rl j l) = cardR (rightsT rl j l') := by
  unfold sameB
  exact decide_eq_true_iff
theorem sameB_false {rl : List DRole} {l l' : List DGrant} {j : Nat} (hj : j < rl.length) (h : ¬ cardR (rightsT rl j l) = cardR (rightsT rl j l')) : sameB rl l l' = false := by
  cases hs : sameB rl l l'
  · rfl
  · exact absurd (sameB_true.1 hs j hj) h
set_option maxRecDepth 100000 in
set_option maxHeartbeats 2000000 in
theorem i_IndexSame (A1 : Option Addr) (n1 c1 : Nat) (rl : List DRole) (A : Option Addr) (n c : Nat) (l : List DGrant) (A' : Option Addr) (n' c' : Nat) (l' : List DGrant) (w : World) (q1 q2 q3 : Nat)
    (hrl : RdRole w A1 n1 rl) (hn1 : n1 ≤ 1048576) (hs1 : sumRole rl ≤ 1048576) (hr : Rd grantE w A n l) (hn : n ≤ 1048576) (hr' : Rd grantE w A' n' l') (hn' : n' ≤ 1048576) (hok : ∀ i, RoleOk nameB rl i) (hgo : ∀ x ∈ l, okG rl x = true) (hgo' : ∀ x ∈ l', okG rl x = true) (hin : NameInj rl)
    (h1 : w.cell? ⟨q1, 0, none⟩ = some (.slice A1 n1 c1)) (h2 : w.cell? ⟨q2, 0, none⟩ = some (.slice A n c)) (h3 : w.cell? ⟨q3, 0, none⟩ = some (.slice A' n' c')) :
    Calls Try.prog 89 #[.slice A1 n1 c1, .func (.func 100) #[] #[.pointer (some ⟨q1, 0, none⟩), .pointer (some ⟨q2, 0, none⟩), .pointer (some ⟨q3, 0, none⟩)]] w fun e w' => ∃ v : Int, e = .returned (.int .i64 v) ∧ (0 ≤ v ↔ sameB rl l l' = false) ∧ -1 ≤ v ∧ v ≤ 1048576 ∧ Below w.heap.size w w' := by
  have Hl := Lib.hid hrl.len
  have HI := Lib.hid hin
  clear hin
  go_enter Try.func89, Try.ntmps89
  go_wp2_with fail
  go_loopw [8] (fun i wr => ∃ k : Nat, k ≤ n1 ∧ i = .int .i64 k ∧ Below w.heap.size w wr ∧ Hid (∀ (j : Nat), j < k → cardR (rightsT rl j l) = cardR (rightsT rl j l'))) (fun i _ => n1 - (intOf i).toNat)
  case atStart => exact ⟨0, Nat.zero_le _, rfl, Below.refl _ _, Lib.hid (fun j h => absurd h (Nat.not_lt_zero _))⟩
  case round =>
    obtain ⟨k, hk, rfl, hb, HH⟩ := hrel
    by_cases hlt : k < n1
    · obtain ⟨b0, off, x, Ax, nx, cx, rfl, hx, hc, hru⟩ := hrl.get hlt
      have hc0 := range_below (B := 0) hc hb 0 _ rfl
      have hc1 := range_below (B := 0) hc hb 1 _ rfl
      simp only [Nat.add_zero] at hc0
      have hfk := Lib.hid (fnd_self HI.out hx)
      have h1' := cell_later hb h1
      have h2' := cell_later hb h2
      have h3' := cell_later hb h3
      have hcall := i_sameRights1 x Ax nx cx q1 q2 q3 k (some ⟨b0, off, none⟩) n1 c1 rl A n c l A' n' c' l' wr (hrl.below hb) hn1 hs1 (hr.below hb) hn (hr'.below hb) hn' hok hgo hgo' hfk.out h1' h2' h3'
      clear hc hx hru h1' h2' h3'
      by_cases hm : cardR (rightsT rl k l) = cardR (rightsT rl k l')
      · have HM := Lib.hid hm
        have HN : Hid (∀ (j : Nat), j < k + 1 → cardR (rightsT rl j l) = cardR (rightsT rl j l')) := Lib.hid (fun j hj => by
          rcases Nat.lt_or_ge j k with h | h
          · exact HH.out j h
          · obtain rfl : j = k := by omega
            exact HM.out)
        rw [decide_eq_true hm] at hcall
        clear hm
        go_wp2_with fail
        refine hcall.mono ?_
        rintro e w1 ⟨rfl, hb1⟩
        have hb2 := hb.trans (hb1.mono hb.size)
        clear hcall
        go_wp2
        first | (refine ⟨⟨k + 1, by omega, by go_num, hb2, HN⟩, ?_⟩; (simp [intOf]; omega)) | (go_roundw; (case rel => first | exact ⟨k + 1, by omega, by go_num, hb2, HN⟩ | ((try refine ⟨trivial, ?_⟩); (repeat apply Exists.intro); exact ⟨⟨k + 1, by omega, by go_num, hb2, HN⟩, rfl⟩)); (case measure => (simp [intOf]; omega)))
      · have HF : Hid (sameB rl l l' = false) := Lib.hid (sameB_false (by have := Hl.out; omega) hm)
        rw [decide_eq_false hm] at hcall
        clear hm
        go_wp2_with fail
        refine hcall.mono ?_
        rintro e w1 ⟨rfl, hb1⟩
        have hb2 := hb.trans (hb1.mono hb.size)
        clear hcall
        go_wp2
        go_ret
        exact ⟨k, rfl, ⟨fun _ => HF.out, fun _ => by omega⟩, by omega, by omega, hb2⟩
    · have HF : Hid (sameB rl l l' = true) := Lib.hid (sameB_true.2 (fun j hj => HH.out j (by have := Hl.out; omega)))
      go_wp2
      go_ret
      exact ⟨-1, rfl, ⟨fun h => absurd h (by decide), fun h => by rw [HF.out] at h; cases h⟩, by omega, by omega, hb⟩
set_option maxRecDepth 100000 in
theorem i_ContainsSame (A1 : Option Addr) (n1 c1 : Nat) (rl : List DRole) (A : Option Addr) (n c : Nat) (l : List DGrant) (A' : Option Addr) (n' c' : Nat) (l' : List DGrant) (w : World) (q1 q2 q3 : Nat)
    (hrl : RdRole w A1 n1 rl) (hn1 : n1 ≤ 1048576) (hs1 : sumRole rl ≤ 1048576) (hr : Rd grantE w A n l) (hn : n ≤ 1048576) (hr' : Rd grantE w A' n' l') (hn' : n' ≤ 1048576) (hok : ∀ i, RoleOk nameB rl i) (hgo : ∀ x ∈ l, okG rl x = true) (hgo' : ∀ x ∈ l', okG rl x = true) (hin : NameInj rl)
    (h1 : w.cell? ⟨q1, 0, none⟩ = some (.slice A1 n1 c1)) (h2 : w.cell? ⟨q2, 0, none⟩ = some (.slice A n c)) (h3 : w.cell? ⟨q3, 0, none⟩ = some (.slice A' n' c')) :
    Calls Try.prog 99 #[.slice A1 n1 c1, .func (.func 100) #[] #[.pointer (some ⟨q1, 0, none⟩), .pointer (some ⟨q2, 0, none⟩), .pointer (some ⟨q3, 0, none⟩)]] w fun e w' => e = .returned (.bool (!(sameB rl l l'))) ∧ Below w.heap.size w w' := by
  have HIx := i_IndexSame A1 n1 c1 rl A n c l A' n' c' l' w q1 q2 q3 hrl hn1 hs1 hr hn hr' hn' hok hgo hgo' hin h1 h2 h3
  go_enter Try.func99, Try.ntmps99
  go_wp2_with fail
  refine HIx.mono ?_
  rintro e w1 ⟨v, rfl, hv, hv1, hv2, hb⟩
  have HE : Hid (decide (0 ≤ v) = !(sameB rl l l')) := Lib.hid (by
    cases hh : sameB rl l l'
    · rw [decide_eq_true (hv.2 hh)]; rfl
    · rw [decide_eq_false (fun h => by rw [hv.1 h] at hh; cases hh)]; rfl)
  clear hv HIx
  go_wp2
  go_ret
  exact ⟨ret_bool HE.out, hb⟩
set_option maxRecDepth 100000 in
set_option maxHeartbeats 1000000 in
theorem i_sameRights (A1 : Option Addr) (n1 c1 : Nat) (rl : List DRole) (A : Option Addr) (n c : Nat) (l : List DGrant) (A' : Option Addr) (n' c' : Nat) (l' : List DGrant) (w : World)
    (hrl : RdRole w A1 n1 rl) (hn1 : n1 ≤ 1048576) (hs1 : sumRole rl ≤ 1048576) (hr : Rd grantE w A n l) (hn : n ≤ 1048576) (hr' : Rd grantE w A' n' l') (hn' : n' ≤ 1048576) (hok : ∀ i, RoleOk nameB rl i) (hgo : ∀ x ∈ l, okG rl x = true) (hgo' : ∀ x ∈ l', okG rl x = true) (hin : NameInj rl) :
    Calls Try.prog 79 #[.slice A1 n1 c1, .slice A n c, .slice A' n' c'] w fun e w' => e = .returned (.bool (sameB rl l l')) ∧ Below w.heap.size w w' := by
  have k1 := range_new w #[.slice A1 n1 c1] 25 0 _ rfl
  have b1 : Below w.heap.size w (w.alloc (.cells #[.slice A1 n1 c1] 25)) := (Below.refl _ _).alloc (Nat.le_refl _) _
  have k2 := range_new (w.alloc (.cells #[.slice A1 n1 c1] 25)) #[.slice A n c] 39 0 _ rfl
  have c1' : Below (w.alloc (.cells #[.slice A1 n1 c1] 25)).heap.size (w.alloc (.cells #[.slice A1 n1 c1] 25)) ((w.alloc (.cells #[.slice A1 n1 c1] 25)).alloc (.cells #[.slice A n c] 39)) := (Below.refl _ _).alloc (Nat.le_refl _) _
  have k3 := range_new ((w.alloc (.cells #[.slice A1 n1 c1] 25)).alloc (.cells #[.slice A n c] 39)) #[.slice A' n' c'] 39 0 _ rfl
  have c2' : Below ((w.alloc (.cells #[.slice A1 n1 c1] 25)).alloc (.cells #[.slice A n c] 39)).heap.size ((w.alloc (.cells #[.slice A1 n1 c1] 25)).alloc (.cells #[.slice A n c] 39)) (((w.alloc (.cells #[.slice A1 n1 c1] 25)).alloc (.cells #[.slice A n c] 39)).alloc (.cells #[.slice A' n' c'] 39)) := (Below.refl _ _).alloc (Nat.le_refl _) _
  simp only [Nat.zero_add] at k1 k2 k3
  replace k1 := cell_later c2' (cell_later c1' k1)
  replace k2 := cell_later c2' k2
  replace b1 := b1.trans (c1'.mono b1.size)
  replace b1 := b1.trans (c2'.mono b1.size)
  clear c1' c2'
  have e1 : ∀ (u : World) o, (u.alloc o).heap.size = u.heap.size + 1 := fun u o => by simp
  simp only [e1] at k2 k3
  clear e1
  have HC := i_ContainsSame A1 n1 c1 rl A n c l A' n' c' l' _ _ _ _ (hrl.below b1) hn1 hs1 (hr.below b1) hn (hr'.below b1) hn' hok hgo hgo' hin k1 k2 k3
  generalize hW : (((w.alloc (.cells #[.slice A1 n1 c1] 25)).alloc (.cells #[.slice A n c] 39)).alloc (.cells #[.slice A' n' c'] 39)) = W at *
  go_enter Try.func79, Try.ntmps79
  go_wp2_with fail
  try rw [hW]
  clear hW
  refine HC.mono ?_
  rintro e w5 ⟨rfl, hb5⟩
  have hbH := b1.trans (hb5.mono b1.size)
  clear HC
  go_wp2
  go_ret
  exact ⟨rfl, hbH⟩

end Go.Proofs.Ytepegiklnhoobaa
