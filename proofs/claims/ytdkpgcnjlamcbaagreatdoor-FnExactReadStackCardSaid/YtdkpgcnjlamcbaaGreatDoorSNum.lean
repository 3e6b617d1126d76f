/- The reference's reading of a number. -/
import Derived.Test.YtdkpgcnjlamcbaaGreatDoorRows
import Derived.Test.YtdkpgcnjlamcbaaGreatDoorSReads
namespace Go.Proofs.YtdkpgcnjlamcbaaGreatDoor
set_option linter.unusedVariables false
set_option linter.unusedSimpArgs false
set_option linter.unusedSectionVars false
open Go.RowKit

theorem ret_num {a b : Int} {c d : Bool} (h : a = b) (h' : c = d) : Ending.returned (.tuple #[.int .i64 b, .bool d]) = .returned (.tuple #[.int .i64 a, .bool c]) := by rw [h, h']
def numV (s : ByteArray) : Int := (numL s.data.toList).getD 0
def numOk (s : ByteArray) : Bool := (numL s.data.toList).isSome
theorem dig_range {c : UInt8} (h : digB c = true) : 48 ≤ c.toNat ∧ c.toNat ≤ 57 := by
  unfold digB inB at h
  simp only [Bool.and_eq_true, decide_eq_true_eq] at h
  omega
theorem dec_bad {ds : List UInt8} {k : Nat} {c : UInt8} (hx : ds[k]? = some c) (hd : digB c = false) : Lib.decNat ds = none := by
  cases h : Lib.decNat ds with
  | none => rfl
  | some m =>
    obtain ⟨d, hd'⟩ := Lib.digit_of_decFrom ds 0 m (decNat_ne h).2 k c hx
    unfold Lib.digitVal at hd'
    split at hd'
    · rename_i h2
      have : digB c = true := by unfold digB inB; simp only [Bool.and_eq_true, decide_eq_true_eq]; omega
      rw [this] at hd; cases hd
    · cases hd'
theorem dec_lt17 {ds : List UInt8} {m : Nat} (h : Lib.decFrom 0 ds = some m) (hl : ds.length ≤ 17) : m < 100000000000000000 := by
  have h1 := Lib.decFrom_lt ds 0 m h
  have hp : 10 ^ ds.length ≤ 10 ^ 17 := Nat.pow_le_pow_right (by decide) hl
  have e17 : (10 : Nat) ^ 17 = 100000000000000000 := by decide
  omega
theorem dec_lt18 {ds : List UInt8} {m : Nat} (h : Lib.decFrom 0 ds = some m) (hl : ds.length ≤ 18) : m < 1000000000000000000 := by
  have h1 := Lib.decFrom_lt ds 0 m h
  have hp : 10 ^ ds.length ≤ 10 ^ 18 := Nat.pow_le_pow_right (by decide) hl
  have e18 : (10 : Nat) ^ 18 = 1000000000000000000 := by decide
  omega
theorem dec_all {ds : List UInt8} {k m : Nat} (h : Lib.decFrom 0 (ds.take k) = some m) (hk : ds.length ≤ k) (hne : 0 < ds.length) : Lib.decNat ds = some m := by
  rw [List.take_of_length_le hk] at h
  unfold Lib.decNat
  rw [if_neg (by cases ds <;> simp at hne ⊢)]
  exact h

set_option maxHeartbeats 4000000 in
theorem s_l01Number (s : ByteArray) (w : World) (hs : s.size ≤ maxLen) :
    Calls Tryz.prog 24 #[.string s] w fun e w' => e = .returned (.tuple #[.int .i64 (numV s), .bool (numOk s)]) ∧ w = w' := by
  unfold maxLen at hs
  unfold numV numOk
  by_cases h0 : s.size = 0
  · have hnil : s.data.toList = [] := List.eq_nil_of_length_eq_zero (by simpa using h0)
    have E : Hid (numL s.data.toList = none) := Lib.hid (by rw [hnil]; rfl)
    clear hnil
    go_enter Tryz.func24, Tryz.ntmps24
    go_wp2
    go_ret2
    exact ⟨ret_num (by rw [E.out]; rfl) (by rw [E.out]; rfl), rfl⟩
  have hpos : 0 < s.size := by omega
  obtain ⟨c, r, hcr⟩ : ∃ c r, s.data.toList = c :: r := by
    cases h : s.data.toList with
    | nil => exact absurd (show s.size = 0 by have h2 : s.data.toList.length = s.size := (by simp); rw [← h2, h]; rfl) h0
    | cons c r => exact ⟨c, r, rfl⟩
  have hc0 : s[0] = c := by
    have h1 := byte_at s 0 hpos
    rw [hcr] at h1
    simpa using h1.symm
  have hrl : r.length + 1 = s.size := by have := congrArg List.length hcr; simpa using this.symm
  have HR := Lib.hid hcr
  by_cases h45 : c = 45
  · have ht : ((s[0].toNat : Int) == 45) = true := by rw [hc0]; exact u8_eq h45
    by_cases h1 : s.size = 1
    · have E : Hid (numL s.data.toList = none) := Lib.hid (by
        have : r = [] := List.eq_nil_of_length_eq_zero (by omega)
        rw [HR.out, this, h45]; rfl)
      clear hc0 hrl hcr h45
      go_enter Tryz.func24, Tryz.ntmps24
      go_wp2
      go_ret2
      exact ⟨ret_num (by rw [E.out]; rfl) (by rw [E.out]; rfl), rfl⟩
    by_cases h18 : 18 < s.size - 1
    · have E : Hid (numL s.data.toList = none) := Lib.hid (by
        rw [HR.out]; unfold numL; simp only; rw [if_pos h45, if_pos (.inl (by omega))])
      have h18' : (18 : Int) < (s.size : Int) - 1 := by omega
      clear hc0 hrl hcr h45 h18
      go_enter Tryz.func24, Tryz.ntmps24
      go_wp2
      go_ret2
      exact ⟨ret_num (by rw [E.out]; rfl) (by rw [E.out]; rfl), rfl⟩
    have hs1 : 1 < s.size := by omega
    have hx1 : r.head? = some s[1] := by
      have h2 := byte_at s 1 hs1
      rw [hcr] at h2
      cases r with
      | nil => simp at h2
      | cons x t => simpa using h2
    by_cases h48 : s[1] = 48
    · have E : Hid (numL s.data.toList = none) := Lib.hid (by
        rw [HR.out]; unfold numL; simp only; rw [if_pos h45, if_pos (.inr (by rw [hx1, h48]))])
      have ht2 : ((s[1].toNat : Int) == 48) = true := u8_eq h48
      clear hc0 hrl hcr h45 h48 hx1
      go_enter Tryz.func24, Tryz.ntmps24
      go_wp2
      go_ret2
      exact ⟨ret_num (by rw [E.out]; rfl) (by rw [E.out]; rfl), rfl⟩
    have HN : Hid (numL s.data.toList = (Lib.decNat (s.data.toList.drop 1)).map fun (m : Nat) => -(m : Int)) := Lib.hid (by
      rw [HR.out]; unfold numL; simp only; rw [if_pos h45, if_neg (by intro h; rcases h with h | h; exact absurd h (by omega); rw [hx1] at h; exact h48 (Option.some.inj h))]; rfl)
    have ht2 : ((s[1].toNat : Int) == 48) = false := u8_ne h48
    obtain ⟨ds, hds⟩ : ∃ ds, s.data.toList.drop 1 = ds := ⟨_, rfl⟩
    rw [hds] at HN
    have h1' : ((s.size : Int) == 1) = false := by rw [beq_eq_false_iff_ne]; omega
    clear hc0 hrl hcr h45 h48 hx1
    go_enter Tryz.func24, Tryz.ntmps24
    have hlen : ds.length = s.size - 1 := by rw [← hds]; simp
    have HG : Hid (∀ k, 1 ≤ k → (h : k < s.size) → ds[k - 1]? = some s[k]) := Lib.hid fun k hk h => by
      rw [← hds, List.getElem?_drop, show 1 + (k - 1) = k by omega]
      exact byte_at s k h
    have HDS := Lib.hid hds; clear hds
    have h18' : ¬ (18 : Int) < (s.size : Int) - 1 := by omega
    clear h18
    go_wp2_with fail
    go_loop [5, 6] (fun nv iv => ∃ (k m : Nat), 1 ≤ k ∧ k ≤ s.size ∧ iv = .int .i64 k ∧ nv = .int .i64 (m : Int) ∧ Hid (Lib.decFrom 0 (ds.take (k - 1)) = some m)) (fun _ i => s.size - (intOf i).toNat)
    case atStart => exact ⟨1, 0, Nat.le_refl _, by omega, rfl, rfl, Lib.hid rfl⟩
    case round =>
      obtain ⟨k, m, hak, hk, rfl, rfl, HM⟩ := hrel
      by_cases hlt : k < s.size
      · have hx := HG.out k hak hlt
        go_wp2_with fail
        refine (s_l01Digit s[k] _).mono ?_
        rintro e w' ⟨rfl, rfl⟩
        rcases hd : digB s[k] with _ | _
        · have E : Hid (numL s.data.toList = none) := Lib.hid (by rw [HN.out, dec_bad hx hd]; rfl)
          clear hd hx
          go_wp2
          go_ret2
          exact ⟨ret_num (by rw [E.out]; rfl) (by rw [E.out]; rfl), rfl⟩
        · obtain ⟨h48, h57⟩ := dig_range hd
          have hmb : m < 100000000000000000 := dec_lt17 HM.out (by rw [List.length_take, hlen]; omega)
          have HK : Hid (Lib.decFrom 0 (ds.take (k + 1 - 1)) = some (m * 10 + (s[k].toNat - 48))) := Lib.hid (by
            rw [show k + 1 - 1 = k - 1 + 1 by omega]
            exact Lib.decFrom_take ds (k - 1) 0 m s[k] _ HM.out hx (by unfold Lib.digitVal; rw [if_pos ⟨by omega, by omega⟩]))
          clear hd hx
          go_wp2
          first | (refine ⟨⟨k + 1, m * 10 + (s[k].toNat - 48), by omega, by omega, by go_num, by (congr 1; omega), HK⟩, ?_⟩; (simp [intOf]; omega)) | (go_round; (case rel => first | exact ⟨k + 1, m * 10 + (s[k].toNat - 48), by omega, by omega, by go_num, by (congr 1; omega), HK⟩ | ((try refine ⟨trivial, ?_⟩); (repeat apply Exists.intro); exact ⟨⟨k + 1, m * 10 + (s[k].toNat - 48), by omega, by omega, by go_num, by (congr 1; omega), HK⟩, rfl⟩)); (case measure => (simp [intOf]; omega)))
      · have E : Hid (numL s.data.toList = some (-(m : Int))) := Lib.hid (by rw [HN.out, dec_all HM.out (by omega) (by omega)]; rfl)
        have hmb : m < 1000000000000000000 := dec_lt18 HM.out (by rw [List.length_take, hlen]; omega)
        go_wp2
        go_ret2
        exact ⟨ret_num (by rw [E.out]; rfl) (by rw [E.out]; rfl), rfl⟩
  · have ht : ((s[0].toNat : Int) == 45) = false := by rw [hc0]; exact u8_ne h45
    by_cases h18 : 18 < s.size
    · have E : Hid (numL s.data.toList = none) := Lib.hid (by
        rw [HR.out]; unfold numL; simp only; rw [if_neg h45, if_pos (.inl (by simp; omega))])
      have h18' : (18 : Int) < (s.size : Int) := by omega
      clear hc0 hrl hcr h45 h18
      go_enter Tryz.func24, Tryz.ntmps24
      go_wp2
      go_ret2
      exact ⟨ret_num (by rw [E.out]; rfl) (by rw [E.out]; rfl), rfl⟩
    have HN0 : ¬ (c = 48 ∧ r ≠ []) → numL s.data.toList = (Lib.decNat (s.data.toList.drop 0)).map fun (m : Nat) => (m : Int) := fun hh => by
      rw [List.drop_zero, HR.out]; unfold numL; simp only; rw [if_neg h45, if_neg (by intro h; rcases h with h | h; exact absurd h (by simp; omega); exact hh h)]
    by_cases h48 : s[0] = 48
    · have ht2 : ((s[0].toNat : Int) == 48) = true := u8_eq h48
      by_cases h1 : 1 < s.size
      · have E : Hid (numL s.data.toList = none) := Lib.hid (by
          have hne : r ≠ [] := fun e => by subst e; simp at hrl; omega
          rw [HR.out]; unfold numL; simp only; rw [if_neg h45, if_pos (.inr ⟨by rw [← hc0]; exact h48, hne⟩)])
        clear hc0 hrl hcr h45 h48 HN0
        go_enter Tryz.func24, Tryz.ntmps24
        go_wp2
        go_ret2
        exact ⟨ret_num (by rw [E.out]; rfl) (by rw [E.out]; rfl), rfl⟩
      have HN := Lib.hid (HN0 fun h => h.2 (List.eq_nil_of_length_eq_zero (by omega)))
      obtain ⟨ds, hds⟩ : ∃ ds, s.data.toList.drop 0 = ds := ⟨_, rfl⟩
      rw [hds] at HN
      have h1' : ¬ (1 : Int) < (s.size : Int) := by omega
      clear hc0 hrl hcr h45 h48 HN0
      go_enter Tryz.func24, Tryz.ntmps24
      have hlen : ds.length = s.size - 0 := by rw [← hds]; simp
      have HG : Hid (∀ k, 0 ≤ k → (h : k < s.size) → ds[k - 0]? = some s[k]) := Lib.hid fun k hk h => by
        rw [← hds, List.getElem?_drop, show 0 + (k - 0) = k by omega]
        exact byte_at s k h
      have HDS := Lib.hid hds; clear hds
      have h18' : ¬ (18 : Int) < (s.size : Int) := by omega
      clear h18
      go_wp2_with fail
      go_loop [5, 6] (fun nv iv => ∃ (k m : Nat), 0 ≤ k ∧ k ≤ s.size ∧ iv = .int .i64 k ∧ nv = .int .i64 (m : Int) ∧ Hid (Lib.decFrom 0 (ds.take (k - 0)) = some m)) (fun _ i => s.size - (intOf i).toNat)
      case atStart => exact ⟨0, 0, Nat.le_refl _, by omega, rfl, rfl, Lib.hid rfl⟩
      case round =>
        obtain ⟨k, m, hak, hk, rfl, rfl, HM⟩ := hrel
        by_cases hlt : k < s.size
        · have hx := HG.out k hak hlt
          go_wp2_with fail
          refine (s_l01Digit s[k] _).mono ?_
          rintro e w' ⟨rfl, rfl⟩
          rcases hd : digB s[k] with _ | _
          · have E : Hid (numL s.data.toList = none) := Lib.hid (by rw [HN.out, dec_bad hx hd]; rfl)
            clear hd hx
            go_wp2
            go_ret2
            exact ⟨ret_num (by rw [E.out]; rfl) (by rw [E.out]; rfl), rfl⟩
          · obtain ⟨h48, h57⟩ := dig_range hd
            have hmb : m < 100000000000000000 := dec_lt17 HM.out (by rw [List.length_take, hlen]; omega)
            have HK : Hid (Lib.decFrom 0 (ds.take (k + 1 - 0)) = some (m * 10 + (s[k].toNat - 48))) := Lib.hid (by
              rw [show k + 1 - 0 = k - 0 + 1 by omega]
              exact Lib.decFrom_take ds (k - 0) 0 m s[k] _ HM.out hx (by unfold Lib.digitVal; rw [if_pos ⟨by omega, by omega⟩]))
            clear hd hx
            go_wp2
            first | (refine ⟨⟨k + 1, m * 10 + (s[k].toNat - 48), by omega, by omega, by go_num, by (congr 1; omega), HK⟩, ?_⟩; (simp [intOf]; omega)) | (go_round; (case rel => first | exact ⟨k + 1, m * 10 + (s[k].toNat - 48), by omega, by omega, by go_num, by (congr 1; omega), HK⟩ | ((try refine ⟨trivial, ?_⟩); (repeat apply Exists.intro); exact ⟨⟨k + 1, m * 10 + (s[k].toNat - 48), by omega, by omega, by go_num, by (congr 1; omega), HK⟩, rfl⟩)); (case measure => (simp [intOf]; omega)))
        · have E : Hid (numL s.data.toList = some (m : Int)) := Lib.hid (by rw [HN.out, dec_all HM.out (by omega) (by omega)]; rfl)
          have hmb : m < 1000000000000000000 := dec_lt18 HM.out (by rw [List.length_take, hlen]; omega)
          go_wp2
          go_ret2
          exact ⟨ret_num (by rw [E.out]; rfl) (by rw [E.out]; rfl), rfl⟩
    · have ht2 : ((s[0].toNat : Int) == 48) = false := u8_ne h48
      have HN := Lib.hid (HN0 fun h => h48 (by rw [hc0]; exact h.1))
      obtain ⟨ds, hds⟩ : ∃ ds, s.data.toList.drop 0 = ds := ⟨_, rfl⟩
      rw [hds] at HN
      clear hc0 hrl hcr h45 h48 HN0
      go_enter Tryz.func24, Tryz.ntmps24
      have hlen : ds.length = s.size - 0 := by rw [← hds]; simp
      have HG : Hid (∀ k, 0 ≤ k → (h : k < s.size) → ds[k - 0]? = some s[k]) := Lib.hid fun k hk h => by
        rw [← hds, List.getElem?_drop, show 0 + (k - 0) = k by omega]
        exact byte_at s k h
      have HDS := Lib.hid hds; clear hds
      have h18' : ¬ (18 : Int) < (s.size : Int) := by omega
      clear h18
      go_wp2_with fail
      go_loop [5, 6] (fun nv iv => ∃ (k m : Nat), 0 ≤ k ∧ k ≤ s.size ∧ iv = .int .i64 k ∧ nv = .int .i64 (m : Int) ∧ Hid (Lib.decFrom 0 (ds.take (k - 0)) = some m)) (fun _ i => s.size - (intOf i).toNat)
      case atStart => exact ⟨0, 0, Nat.le_refl _, by omega, rfl, rfl, Lib.hid rfl⟩
      case round =>
        obtain ⟨k, m, hak, hk, rfl, rfl, HM⟩ := hrel
        by_cases hlt : k < s.size
        · have hx := HG.out k hak hlt
          go_wp2_with fail
          refine (s_l01Digit s[k] _).mono ?_
          rintro e w' ⟨rfl, rfl⟩
          rcases hd : digB s[k] with _ | _
          · have E : Hid (numL s.data.toList = none) := Lib.hid (by rw [HN.out, dec_bad hx hd]; rfl)
            clear hd hx
            go_wp2
            go_ret2
            exact ⟨ret_num (by rw [E.out]; rfl) (by rw [E.out]; rfl), rfl⟩
          · obtain ⟨h48, h57⟩ := dig_range hd
            have hmb : m < 100000000000000000 := dec_lt17 HM.out (by rw [List.length_take, hlen]; omega)
            have HK : Hid (Lib.decFrom 0 (ds.take (k + 1 - 0)) = some (m * 10 + (s[k].toNat - 48))) := Lib.hid (by
              rw [show k + 1 - 0 = k - 0 + 1 by omega]
              exact Lib.decFrom_take ds (k - 0) 0 m s[k] _ HM.out hx (by unfold Lib.digitVal; rw [if_pos ⟨by omega, by omega⟩]))
            clear hd hx
            go_wp2
            first | (refine ⟨⟨k + 1, m * 10 + (s[k].toNat - 48), by omega, by omega, by go_num, by (congr 1; omega), HK⟩, ?_⟩; (simp [intOf]; omega)) | (go_round; (case rel => first | exact ⟨k + 1, m * 10 + (s[k].toNat - 48), by omega, by omega, by go_num, by (congr 1; omega), HK⟩ | ((try refine ⟨trivial, ?_⟩); (repeat apply Exists.intro); exact ⟨⟨k + 1, m * 10 + (s[k].toNat - 48), by omega, by omega, by go_num, by (congr 1; omega), HK⟩, rfl⟩)); (case measure => (simp [intOf]; omega)))
        · have E : Hid (numL s.data.toList = some (m : Int)) := Lib.hid (by rw [HN.out, dec_all HM.out (by omega) (by omega)]; rfl)
          have hmb : m < 1000000000000000000 := dec_lt18 HM.out (by rw [List.length_take, hlen]; omega)
          go_wp2
          go_ret2
          exact ⟨ret_num (by rw [E.out]; rfl) (by rw [E.out]; rfl), rfl⟩

end Go.Proofs.YtdkpgcnjlamcbaaGreatDoor
