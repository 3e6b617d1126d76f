/- The last version from which two come, and the state of a version: both sides. Printed by a program of mine. -/
import Derived.Test.YtfabijhilfjkcaaRows
import Derived.Test.YtfabijhilfjkcaaAnc
namespace Go.Proofs.Ytfabijhilfjkcaa
set_option linter.unusedVariables false
set_option linter.unusedSimpArgs false
set_option linter.unusedSectionVars false
open Go.RowKit
set_option maxRecDepth 100000

theorem s_l00Has (A : Option Addr) (n c : Nat) (l : List Int) (x : Int) (w : World) (hr : Rd intE w A n l) (hn : n ≤ 1048576) :
    Calls Try.prog 38 #[.slice A n c, .int .i64 x] w fun e w' => e = .returned (.bool (decide (x ∈ l))) ∧ w = w' := by
  have Hl := Lib.hid hr.1
  go_enter Try.func38, Try.ntmps38
  go_wp2_with fail
  go_loop [5] (fun i => ∃ k : Nat, k ≤ n ∧ i = .int .i64 k ∧ Hid (NoHit l x k)) (fun i => n - (intOf i).toNat)
  case atStart => exact ⟨0, Nat.zero_le _, rfl, Lib.hid (noHit_zero l x)⟩
  case round =>
    obtain ⟨k, hk, rfl, HH⟩ := hrel
    by_cases hlt : k < n
    · obtain ⟨b, off, y, rfl, hy, hcs⟩ := hr.get hlt
      have hc0 := hcs 0 _ rfl
      simp only [intE, Nat.mul_one, Nat.add_zero] at hc0
      have HY := Lib.hid hy
      clear hcs hy
      by_cases he : y = x
      · have h1 : (y == x) = true := by rw [beq_iff_eq, he]
        have HM : Hid (x ∈ l) := Lib.hid (he ▸ List.mem_of_getElem? HY.out)
        have HE := Lib.hid he
        clear he
        go_wp2
        go_ret
        exact ⟨ret_bool (decide_eq_true HM.out).symm, rfl⟩
      · have h1 : (y == x) = false := by rw [beq_eq_false_iff_ne]; exact he
        have HN : Hid (NoHit l x (k + 1)) := Lib.hid (noHit_next HH.out HY.out he)
        clear he
        go_wp2
        first | (refine ⟨⟨k + 1, by omega, by go_num, HN⟩, ?_⟩; (simp [intOf]; omega)) | (go_round; (case rel => first | exact ⟨k + 1, by omega, by go_num, HN⟩ | ((try refine ⟨trivial, ?_⟩); (repeat apply Exists.intro); exact ⟨⟨k + 1, by omega, by go_num, HN⟩, rfl⟩)); (case measure => (simp [intOf]; omega)))
    · have HM : Hid (x ∉ l) := Lib.hid (noHit_all (n := k) HH.out (by have := Hl.out; omega))
      go_wp2
      go_ret
      exact ⟨ret_bool (decide_eq_false HM.out).symm, rfl⟩

theorem i_Index64 (A : Option Addr) (n c : Nat) (l : List Int) (x : Int) (w : World) (hr : Rd intE w A n l) (hn : n ≤ 1048576) :
    Calls Try.prog 63 #[.slice A n c, .int .i64 x] w fun e w' => ∃ v : Int, Hid (0 ≤ v ↔ x ∈ l) ∧ e = .returned (.int .i64 v) ∧ w = w' := by
  have Hl := Lib.hid hr.1
  go_enter Try.func63, Try.ntmps63
  go_wp2_with fail
  go_loop [8] (fun i => ∃ k : Nat, k ≤ n ∧ i = .int .i64 k ∧ Hid (NoHit l x k)) (fun i => n - (intOf i).toNat)
  case atStart => exact ⟨0, Nat.zero_le _, rfl, Lib.hid (noHit_zero l x)⟩
  case round =>
    obtain ⟨k, hk, rfl, HH⟩ := hrel
    by_cases hlt : k < n
    · obtain ⟨b, off, y, rfl, hy, hcs⟩ := hr.get hlt
      have hc0 := hcs 0 _ rfl
      simp only [intE, Nat.mul_one, Nat.add_zero] at hc0
      have HY := Lib.hid hy
      clear hcs hy
      by_cases he : y = x
      · have h1 : (x == y) = true := by rw [beq_iff_eq, he]
        have HM : Hid (x ∈ l) := Lib.hid (he ▸ List.mem_of_getElem? HY.out)
        have HE := Lib.hid he
        clear he
        go_wp2
        go_ret
        exact ⟨k, Lib.hid ⟨fun _ => HM.out, fun _ => by omega⟩, rfl, rfl⟩
      · have h1 : (x == y) = false := by rw [beq_eq_false_iff_ne]; exact fun e => he e.symm
        have HN : Hid (NoHit l x (k + 1)) := Lib.hid (noHit_next HH.out HY.out he)
        clear he
        go_wp2
        first | (refine ⟨⟨k + 1, by omega, by go_num, HN⟩, ?_⟩; (simp [intOf]; omega)) | (go_round; (case rel => first | exact ⟨k + 1, by omega, by go_num, HN⟩ | ((try refine ⟨trivial, ?_⟩); (repeat apply Exists.intro); exact ⟨⟨k + 1, by omega, by go_num, HN⟩, rfl⟩)); (case measure => (simp [intOf]; omega)))
    · have HM : Hid (x ∉ l) := Lib.hid (noHit_all (n := k) HH.out (by have := Hl.out; omega))
      go_wp2
      go_ret
      exact ⟨-1, Lib.hid ⟨fun h => by omega, fun h => absurd h HM.out⟩, rfl, rfl⟩

theorem i_Contains64 (A : Option Addr) (n c : Nat) (l : List Int) (x : Int) (w : World) (hr : Rd intE w A n l) (hn : n ≤ 1048576) :
    Calls Try.prog 49 #[.slice A n c, .int .i64 x] w fun e w' => e = .returned (.bool (decide (x ∈ l))) ∧ w = w' := by
  go_enter Try.func49, Try.ntmps49
  go_wp2_with fail
  refine (i_Index64 A n c l x _ hr hn).mono ?_
  rintro e w' ⟨v, hv, rfl, rfl⟩
  go_wp2
  go_ret
  exact ⟨ret_bool (decide_eq_decide.2 hv.out), rfl⟩

set_option maxHeartbeats 2000000 in
theorem s_l27Common (A : Option Addr) (n c a b : Nat) (l : List DVersion) (w : World) (hr : RdVersion w A n l) (hok : OkHist l) (ha1 : 1 ≤ a) (ha2 : a ≤ n) (hb1 : 1 ≤ b) (hb2 : b ≤ n) (hn : n ≤ 32) :
    Calls Try.prog 17 #[.slice A n c, .int .i64 a, .int .i64 b] w fun e w' => e = .returned (.int .i64 ((commonN (parV l) a b : Nat) : Int)) ∧ Below w.heap.size w w' := by
  obtain ⟨j0, gi, gz0, gz1, gz2⟩ := info_parts Try.info_n64
  have GZ := Lib.hid (And.intro gz0 gz1); clear gz0 gz1
  have Hl := Lib.hid hr.len
  have HK := Lib.hid hok; clear hok
  have q0 : Below w.heap.size w (w.alloc (.cells #[.int .i64 a] 2)) := (Below.refl _ _).alloc (Nat.le_refl _) _
  have hg1 : GL intE 2 w.heap.size (w.alloc (.cells #[.int .i64 a] 2)) (.slice (some ⟨w.heap.size, 0, none⟩) 1 1) [(a : Int)] := GL.one (Nat.le_refl _)
  go_enter Try.func17, Try.ntmps17
  go_wp2_with fail
  refine (s_l27Above A n c a l _ (hr.below q0) HK.out ha1 ha2 hn).mono ?_
  rintro e w1 ⟨B1, m1, c1, rfl, hga, hm1, hba⟩
  have q1 := q0.trans (hba.mono q0.size)
  have hg2 := hg1.below hba
  clear hg1 hba q0
  go_wp2_with (at_builtin; refine wpList_pushL intE rfl _ _ 58 rfl w.heap.size 2 j0 _ 8 Try.underlying58 gi GZ.out.1 GZ.out.2 gz2 rfl (.slice (some ⟨w.heap.size, 0, none⟩) 1 1) [(a : Int)] (intsN (aboveN (parV l) a)) rfl hg2 B1 m1 c1 rfl hga.len (Rd.noneLen hga.rd) (Rd.src hga.rd) (1 + m1) rfl (intsN (lineV l a)) rfl (by omega) (by decide) w q1 q1.size ?_; intro D1 d1 w2 hone1 _ hbo1 hso1)
  clear hga hg2
  have p0 : Below w2.heap.size w2 (w2.alloc (.cells #[.int .i64 b] 2)) := (Below.refl _ _).alloc (Nat.le_refl _) _
  have hg1 : GL intE 2 w2.heap.size (w2.alloc (.cells #[.int .i64 b] 2)) (.slice (some ⟨w2.heap.size, 0, none⟩) 1 1) [(b : Int)] := GL.one (Nat.le_refl _)
  refine (s_l27Above A n c b l _ (hr.below (hbo1.trans (p0.mono hbo1.size))) HK.out hb1 hb2 hn).mono ?_
  rintro e w3 ⟨B2, m2, c2, rfl, hga, hm2, hba⟩
  have p1 := p0.trans (hba.mono p0.size)
  have hg2 := hg1.below hba
  clear hg1 hba p0
  go_wp2_with (at_builtin; refine wpList_pushL intE rfl _ _ 58 rfl w2.heap.size 2 j0 _ 8 Try.underlying58 gi GZ.out.1 GZ.out.2 gz2 rfl (.slice (some ⟨w2.heap.size, 0, none⟩) 1 1) [(b : Int)] (intsN (aboveN (parV l) b)) rfl hg2 B2 m2 c2 rfl hga.len (Rd.noneLen hga.rd) (Rd.src hga.rd) (1 + m2) rfl (intsN (lineV l b)) rfl (by omega) (by decide) w2 p1 p1.size ?_; intro D2 d2 w4 hone2 _ hbo2 hso2)
  have hone := hone1.below hbo2
  have hbF := hbo1.trans (hbo2.mono hbo1.size)
  clear hga hg2 hone1 hbo1 hbo2 q1 p1
  have HL1 := Lib.hid hone.len
  go_loop [9] (fun i => ∃ k : Nat, k ≤ 1 + m1 ∧ i = .int .i64 k ∧ Hid (NotIn (lineV l a) (lineV l b) k)) (fun i => 1 + m1 - (intOf i).toNat)
  case atStart => exact ⟨0, Nat.zero_le _, rfl, Lib.hid (notIn_zero _ _)⟩
  case round =>
    obtain ⟨k, hk, rfl, HH⟩ := hrel
    by_cases hlt : k < 1 + m1
    · obtain ⟨b0, off0, x, hD, hx, hcs⟩ := hone.rd.get hlt
      subst hD
      have hc0 := hcs 0 _ rfl
      simp only [intE, Nat.mul_one, Nat.add_zero] at hc0
      obtain ⟨q, hq, rfl⟩ := intsN_get hx
      have HQ := Lib.hid hq
      clear hcs hx hq
      go_wp2_with fail
      refine (s_l00Has D2 (1 + m2) d2 (intsN (lineV l b)) (q : Int) _ hone2.rd (by omega)).mono ?_
      rintro e w5 ⟨rfl, rfl⟩
      by_cases hin : q ∈ lineV l b
      · have h1 : decide ((q : Int) ∈ intsN (lineV l b)) = true := decide_eq_true (intsN_mem.2 hin)
        have E : Hid (((commonN (parV l) a b : Nat) : Int) = (q : Int)) := Lib.hid (congrArg Int.ofNat (firstIn_hit HQ.out HH.out hin))
        rw [h1]
        clear hin h1
        go_wp2
        go_ret
        exact ⟨ret_int E.out.symm, hbF⟩
      · have h1 : decide ((q : Int) ∈ intsN (lineV l b)) = false := decide_eq_false (fun h => hin (intsN_mem.1 h))
        have HN := Lib.hid (notIn_next HH.out HQ.out hin)
        rw [h1]
        clear hin h1
        go_wp2
        first | (refine ⟨⟨k + 1, by omega, by go_num, HN⟩, ?_⟩; (simp [intOf]; omega)) | (go_round; (case rel => first | exact ⟨k + 1, by omega, by go_num, HN⟩ | ((try refine ⟨trivial, ?_⟩); (repeat apply Exists.intro); exact ⟨⟨k + 1, by omega, by go_num, HN⟩, rfl⟩)); (case measure => (simp [intOf]; omega)))
    · have E : Hid (((commonN (parV l) a b : Nat) : Int) = 0) := Lib.hid (congrArg Int.ofNat (notIn_all (show NotIn (lineV l a) (lineV l b) (lineV l a).length by have h0 := HL1.out; rw [intsN_len] at h0; rw [h0, show 1 + m1 = k by omega]; exact HH.out)))
      go_wp2
      go_ret
      exact ⟨ret_int E.out.symm, hbF⟩

set_option maxHeartbeats 2000000 in
theorem i_common (A : Option Addr) (n c a b : Nat) (l : List DVersion) (w : World) (hr : RdVersion w A n l) (hok : OkHist l) (ha1 : 1 ≤ a) (ha2 : a ≤ n) (hb1 : 1 ≤ b) (hb2 : b ≤ n) (hn : n ≤ 32) :
    Calls Try.prog 25 #[.slice A n c, .int .i64 a, .int .i64 b] w fun e w' => e = .returned (.int .i64 ((commonN (parV l) a b : Nat) : Int)) ∧ Below w.heap.size w w' := by
  obtain ⟨j0, gi, gz0, gz1, gz2⟩ := info_parts Try.info_n64
  have GZ := Lib.hid (And.intro gz0 gz1); clear gz0 gz1
  have Hl := Lib.hid hr.len
  have HK := Lib.hid hok; clear hok
  go_enter Try.func25, Try.ntmps25
  go_wp2_with fail
  refine (i_ancestors A n c b l _ hr HK.out hb1 hb2 hn).mono ?_
  rintro e w1 ⟨B2, m2, c2, rfl, hgb, hm2, q1⟩
  have hs1 := q1.size
  go_wp2_with (at_builtin; refine wpList_pushO intE rfl _ _ 58 rfl w.heap.size 2 j0 _ 8 Try.underlying58 gi GZ.out.1 GZ.out.2 gz2 rfl B2 m2 c2 (intsN (aboveN (parV l) b)) (b : Int) rfl (hgb.alloc _) w1.heap.size rfl (range_new _ _ _) (by omega) (by decide) (Nat.le_trans hs1 (by simp)) ?_; intro D2 d2 w2 htwo ht2 hn2)
  have hbo1 := Below.touch (q1.alloc hs1 (.cells #[.int .i64 b] 2)) ht2 (fun k hk => (hgb.lt k hk).1) (Nat.le_trans hs1 (by simp))
  have HT : Hid (intsN (aboveN (parV l) b) ++ [(b : Int)] = intsN (aboveN (parV l) b ++ [b])) := Lib.hid (by rw [intsN_app]; rfl)
  rw [HT.out] at htwo
  clear hgb ht2 hn2 q1
  have p0 : Below w2.heap.size w2 (w2.alloc (.cells #[.int .i64 a] 2)) := (Below.refl _ _).alloc (Nat.le_refl _) _
  have hg1 : GL intE 2 w2.heap.size (w2.alloc (.cells #[.int .i64 a] 2)) (.slice (some ⟨w2.heap.size, 0, none⟩) 1 1) [(a : Int)] := GL.one (Nat.le_refl _)
  refine (i_ancestors A n c a l _ (hr.below (hbo1.trans (p0.mono hbo1.size))) HK.out ha1 ha2 hn).mono ?_
  rintro e w3 ⟨B1, m1, c1, rfl, hga, hm1, hba⟩
  have p1 := p0.trans (hba.mono p0.size)
  have hg2 := hg1.below hba
  clear hg1 hba p0
  go_wp2_with (at_builtin; refine wpList_pushL intE rfl _ _ 58 rfl w2.heap.size 2 j0 _ 8 Try.underlying58 gi GZ.out.1 GZ.out.2 gz2 rfl (.slice (some ⟨w2.heap.size, 0, none⟩) 1 1) [(a : Int)] (intsN (aboveN (parV l) a)) rfl hg2 B1 m1 c1 rfl hga.len (Rd.noneLen hga.rd) (Rd.src hga.rd) (1 + m1) rfl (intsN (lineV l a)) rfl (by omega) (by decide) w2 p1 p1.size ?_; intro D1 d1 w4 hone1 _ hbo1' hso1)
  have htwo4 := htwo.below hbo1'
  have hbF := hbo1.trans (hbo1'.mono hbo1.size)
  clear hga hg2 htwo hbo1 hbo1' p1
  have HL1 := Lib.hid hone1.len
  go_loop [9, 23] (fun _ i => ∃ k : Nat, k ≤ 1 + m1 ∧ i = .int .i64 k ∧ Hid (NotIn (lineV l a) (aboveN (parV l) b ++ [b]) k)) (fun _ i => 1 + m1 - (intOf i).toNat)
  case atStart => exact ⟨0, Nat.zero_le _, rfl, Lib.hid (notIn_zero _ _)⟩
  case round =>
    obtain ⟨k, hk, rfl, HH⟩ := hrel
    by_cases hlt : k < 1 + m1
    · obtain ⟨b0, off0, x, hD, hx, hcs⟩ := hone1.rd.get hlt
      subst hD
      have hc0 := hcs 0 _ rfl
      simp only [intE, Nat.mul_one, Nat.add_zero] at hc0
      obtain ⟨q, hq, rfl⟩ := intsN_get hx
      have HQ := Lib.hid hq
      clear hcs hx hq
      go_wp2_with fail
      refine (i_Contains64 D2 (m2 + 1) d2 (intsN (aboveN (parV l) b ++ [b])) (q : Int) _ htwo4.rd (by omega)).mono ?_
      rintro e w5 ⟨rfl, rfl⟩
      by_cases hin : q ∈ aboveN (parV l) b ++ [b]
      · have h1 : decide ((q : Int) ∈ intsN (aboveN (parV l) b ++ [b])) = true := decide_eq_true (intsN_mem.2 hin)
        have E : Hid (((commonN (parV l) a b : Nat) : Int) = (q : Int)) := Lib.hid (congrArg Int.ofNat (by rw [common_swap]; exact firstIn_hit HQ.out HH.out hin))
        rw [h1]
        clear hin h1
        go_wp2
        go_ret
        exact ⟨ret_int E.out.symm, hbF⟩
      · have h1 : decide ((q : Int) ∈ intsN (aboveN (parV l) b ++ [b])) = false := decide_eq_false (fun h => hin (intsN_mem.1 h))
        have HN := Lib.hid (notIn_next HH.out HQ.out hin)
        rw [h1]
        clear hin h1
        go_wp2
        first | (refine ⟨⟨k + 1, by omega, by go_num, HN⟩, ?_⟩; (simp [intOf]; omega)) | (go_round; (case rel => first | exact ⟨k + 1, by omega, by go_num, HN⟩ | ((try refine ⟨trivial, ?_⟩); (repeat apply Exists.intro); exact ⟨⟨k + 1, by omega, by go_num, HN⟩, rfl⟩)); (case measure => (simp [intOf]; omega)))
    · have E : Hid (((commonN (parV l) a b : Nat) : Int) = 0) := Lib.hid (congrArg Int.ofNat (by rw [common_swap]; exact notIn_all (show NotIn (lineV l a) (aboveN (parV l) b ++ [b]) (lineV l a).length by have h0 := HL1.out; rw [intsN_len] at h0; rw [h0, show 1 + m1 = k by omega]; exact HH.out)))
      go_wp2
      go_ret
      exact ⟨ret_int E.out.symm, hbF⟩

theorem s_l27StateOf (A : Option Addr) (n c q : Nat) (l : List DVersion) (w : World) (hr : RdVersion w A n l) (hq : q ≤ n) (hn : n ≤ 32) :
    Calls Try.prog 16 #[.slice A n c, .int .i64 q] w fun e w' => ∃ B m c', e = .returned (.slice B m c') ∧ Rd settingE w' B m (stAt l q) ∧ Below w.heap.size w w' := by
  rcases q with _ | m
  · have hb0 : Below w.heap.size w (w.alloc (.cells #[] 56)) := (Below.refl _ _).alloc (Nat.le_refl _) _
    go_enter Try.func16, Try.ntmps16
    go_wp2
    go_ret
    exact ⟨_, 0, 0, rfl, ⟨rfl, fun h => absurd h (by omega)⟩, hb0⟩
  · obtain ⟨b, off, x, A', n', c', rfl, hx, hcs, hru⟩ := hr.get (k := m) (by omega)
    have hc3 := hcs 3 _ rfl
    have E : Hid (stAt l (m + 1) = x.fState) := Lib.hid (stAt_get (by omega) hx)
    have hne : (((m + 1 : Nat) : Int) == 0) = false := by rw [beq_eq_false_iff_ne]; omega
    clear hcs hx
    go_enter Try.func16, Try.ntmps16
    go_wp2
    go_ret
    exact ⟨A', n', c', rfl, by rw [E.out]; exact hru, Below.refl _ _⟩

theorem i_stateOf (A : Option Addr) (n c q : Nat) (l : List DVersion) (w : World) (hr : RdVersion w A n l) (hq : q ≤ n) (hn : n ≤ 32) :
    Calls Try.prog 24 #[.slice A n c, .int .i64 q] w fun e w' => ∃ B m c', e = .returned (.slice B m c') ∧ Rd settingE w' B m (stAt l q) ∧ Below w.heap.size w w' := by
  rcases q with _ | m
  · go_enter Try.func24, Try.ntmps24
    go_wp2
    go_ret
    exact ⟨_, 0, 0, rfl, ⟨rfl, fun h => absurd h (by omega)⟩, Below.refl _ _⟩
  · obtain ⟨b, off, x, A', n', c', rfl, hx, hcs, hru⟩ := hr.get (k := m) (by omega)
    have hc3 := hcs 3 _ rfl
    have E : Hid (stAt l (m + 1) = x.fState) := Lib.hid (stAt_get (by omega) hx)
    have hne : (((m + 1 : Nat) : Int) == 0) = false := by rw [beq_eq_false_iff_ne]; omega
    clear hcs hx
    go_enter Try.func24, Try.ntmps24
    go_wp2
    go_ret
    exact ⟨A', n', c', rfl, by rw [E.out]; exact hru, Below.refl _ _⟩

end Go.Proofs.Ytfabijhilfjkcaa
