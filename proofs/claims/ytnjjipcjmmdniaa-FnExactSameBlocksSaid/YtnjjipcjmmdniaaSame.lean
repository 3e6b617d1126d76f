/- Whether two lists of blocks are the same. -/
import Derived.Test.YtnjjipcjmmdniaaRows
import Derived.Test.YtnjjipcjmmdniaaCBlock
import Derived.Test.YtnjjipcjmmdniaaConvS
namespace Go.Proofs.Ytnjjipcjmmdniaa
set_option linter.unusedVariables false
set_option linter.unusedSimpArgs false
set_option linter.unusedSectionVars false
open Go.RowKit

def sameL {α : Type} (eq : α → α → Bool) : List α → List α → Bool
  | [], [] => true
  | x :: r, y :: s => eq x y && sameL eq r s
  | _, _ => false
theorem sameL_len {α : Type} (eq : α → α → Bool) : ∀ (l l' : List α), l.length ≠ l'.length → sameL eq l l' = false
  | [], [], h => absurd rfl h
  | [], _ :: _, _ => rfl
  | _ :: _, [], _ => rfl
  | x :: r, y :: s, h => by
    simp only [sameL, sameL_len eq r s (by simpa using h), Bool.and_false]

set_option maxHeartbeats 400000 in
theorem s_l29Same (A A' : Option Addr) (n n' c c' : Nat) (l l' : List DBlock) (w : World) (hr : Rd blockE w A n l) (hr' : Rd blockE w A' n' l') (hn : n ≤ maxLen) (hn' : n' ≤ maxLen) :
    Calls Try.prog 43 #[.slice A n c, .slice A' n' c'] w (RetB (sameL DBlock.eqv l l') w) := by
  unfold maxLen at hn hn'
  have Hl := Lib.hid hr.1
  have Hl' := Lib.hid hr'.1
  by_cases hne : n = n'
  · subst hne
    go_enter Try.func43, Try.ntmps43
    go_wp2
    go_loopw [5] (fun i wr => ∃ k : Nat, k ≤ n ∧ i = .int .i64 k ∧ Below w.heap.size w wr ∧ Hid (sameL DBlock.eqv l l' = sameL DBlock.eqv (l.drop k) (l'.drop k))) (fun i _ => n - (intOf i).toNat)
    case atStart => exact ⟨0, Nat.zero_le _, rfl, by (repeat (first | exact Below.refl _ _ | assumption | refine Below.drew ?_ | refine Below.alloc ?_ (by first | omega | (simp; done) | (simp; omega) | exact Below.size (by assumption)) _ | refine Below.setCell ?_ (by first | omega | (simp; done) | (simp; omega)) _)), Lib.hid rfl⟩
    case round =>
      obtain ⟨k, hk, rfl, hb, HH⟩ := hrel
      by_cases hkn : k < n
      · obtain ⟨b, off, x, rfl, hks, hc⟩ := hr.get hkn
        obtain ⟨b', off', x', rfl, hks', hc'⟩ := hr'.get hkn
        have hc0 := range_below (B := 0) hc hb 0 _ rfl
        have hc1 := range_below (B := 0) hc hb 1 _ rfl
        have hc2 := range_below (B := 0) hc hb 2 _ rfl
        simp only [blockE, Nat.add_zero] at hc0 hc1 hc2
        have hd0 := range_below (B := 0) hc' hb 0 _ rfl
        have hd1 := range_below (B := 0) hc' hb 1 _ rfl
        have hd2 := range_below (B := 0) hc' hb 2 _ rfl
        simp only [blockE, Nat.add_zero] at hd0 hd1 hd2
        have HD := Lib.hid (drop_of_get hks)
        have HD' := Lib.hid (drop_of_get hks')
        clear hc hc' hks hks'
        have hne := fun W => run_neq_Block x x' W
        rcases he : x.eqv x' with _ | _
        · have HE := Lib.hid he
          rw [he] at hne
          clear he
          go_wp2_with fail
          go_quiet (fail)
          clear hne
          go_wp2
          go_ret
          exact ⟨ret_bool (by rw [HH.out, HD.out, HD'.out]; simp only [sameL, HE.out]; rfl), below_drewN hb _⟩
        · have HE := Lib.hid he
          rw [he] at hne
          clear he
          go_wp2_with fail
          go_quiet (fail)
          clear hne
          go_wp2
          first | (refine ⟨⟨k + 1, by omega, by go_num, below_drewN hb _, Lib.hid (by rw [HH.out, HD.out, HD'.out]; simp only [sameL, HE.out]; rfl)⟩, ?_⟩; (simp [intOf]; omega)) | (go_roundw; (case rel => exact ⟨k + 1, by omega, by go_num, below_drewN hb _, Lib.hid (by rw [HH.out, HD.out, HD'.out]; simp only [sameL, HE.out]; rfl)⟩); (case measure => (simp [intOf]; omega)))
      · go_wp2
        go_ret
        exact ⟨ret_bool (by rw [HH.out, List.drop_of_length_le (by have := Hl.out; omega), List.drop_of_length_le (by have := Hl'.out; omega)]; rfl), hb⟩
  · have E : Hid (sameL DBlock.eqv l l' = false) := Lib.hid (sameL_len _ _ _ (by rw [Hl.out, Hl'.out]; exact hne))
    have hd : ((n : Int) == (n' : Int)) = false := by rw [beq_eq_false_iff_ne]; omega
    have hd' : ((n : Int) != (n' : Int)) = true := by rw [bne_iff_ne]; omega
    go_enter Try.func43, Try.ntmps43
    go_wp2
    go_ret
    exact ⟨by rw [E.out]; rfl, by (repeat (first | exact Below.refl _ _ | assumption | refine Below.drew ?_ | refine Below.alloc ?_ (by first | omega | (simp; done) | (simp; omega) | exact Below.size (by assumption)) _ | refine Below.setCell ?_ (by first | omega | (simp; done) | (simp; omega)) _))⟩

set_option maxHeartbeats 400000 in
theorem i_same_Block (A A' : Option Addr) (n n' c c' : Nat) (l l' : List DBlock) (w : World) (hr : Rd blockE w A n l) (hr' : Rd blockE w A' n' l') (hn : n ≤ maxLen) (hn' : n' ≤ maxLen) :
    Calls Try.prog 45 #[.slice A n c, .slice A' n' c'] w (RetB (sameL DBlock.eqv l l') w) := by
  unfold maxLen at hn hn'
  have Hl := Lib.hid hr.1
  have Hl' := Lib.hid hr'.1
  by_cases hne : n = n'
  · subst hne
    go_enter Try.func45, Try.ntmps45
    go_wp2
    go_loopw [13] (fun i wr => ∃ k : Nat, k ≤ n ∧ i = .int .i64 k ∧ Below w.heap.size w wr ∧ Hid (sameL DBlock.eqv l l' = sameL DBlock.eqv (l.drop k) (l'.drop k))) (fun i _ => n - (intOf i).toNat)
    case atStart => exact ⟨0, Nat.zero_le _, rfl, by (repeat (first | exact Below.refl _ _ | assumption | refine Below.drew ?_ | refine Below.alloc ?_ (by first | omega | (simp; done) | (simp; omega) | exact Below.size (by assumption)) _ | refine Below.setCell ?_ (by first | omega | (simp; done) | (simp; omega)) _)), Lib.hid rfl⟩
    case round =>
      obtain ⟨k, hk, rfl, hb, HH⟩ := hrel
      by_cases hkn : k < n
      · obtain ⟨b, off, x, rfl, hks, hc⟩ := hr.get hkn
        obtain ⟨b', off', x', rfl, hks', hc'⟩ := hr'.get hkn
        have hc0 := range_below (B := 0) hc hb 0 _ rfl
        have hc1 := range_below (B := 0) hc hb 1 _ rfl
        have hc2 := range_below (B := 0) hc hb 2 _ rfl
        simp only [blockE, Nat.add_zero] at hc0 hc1 hc2
        have hd0 := range_below (B := 0) hc' hb 0 _ rfl
        have hd1 := range_below (B := 0) hc' hb 1 _ rfl
        have hd2 := range_below (B := 0) hc' hb 2 _ rfl
        simp only [blockE, Nat.add_zero] at hd0 hd1 hd2
        have HD := Lib.hid (drop_of_get hks)
        have HD' := Lib.hid (drop_of_get hks')
        clear hc hc' hks hks'
        have hne := fun W => run_neq_Block x x' W
        rcases he : x.eqv x' with _ | _
        · have HE := Lib.hid he
          rw [he] at hne
          clear he
          go_wp2_with fail
          go_quiet (fail)
          clear hne
          go_wp2
          go_ret
          exact ⟨ret_bool (by rw [HH.out, HD.out, HD'.out]; simp only [sameL, HE.out]; rfl), below_drewN hb _⟩
        · have HE := Lib.hid he
          rw [he] at hne
          clear he
          go_wp2_with fail
          go_quiet (fail)
          clear hne
          go_wp2
          first | (refine ⟨⟨k + 1, by omega, by go_num, below_drewN hb _, Lib.hid (by rw [HH.out, HD.out, HD'.out]; simp only [sameL, HE.out]; rfl)⟩, ?_⟩; (simp [intOf]; omega)) | (go_roundw; (case rel => exact ⟨k + 1, by omega, by go_num, below_drewN hb _, Lib.hid (by rw [HH.out, HD.out, HD'.out]; simp only [sameL, HE.out]; rfl)⟩); (case measure => (simp [intOf]; omega)))
      · go_wp2
        go_ret
        exact ⟨ret_bool (by rw [HH.out, List.drop_of_length_le (by have := Hl.out; omega), List.drop_of_length_le (by have := Hl'.out; omega)]; rfl), hb⟩
  · have E : Hid (sameL DBlock.eqv l l' = false) := Lib.hid (sameL_len _ _ _ (by rw [Hl.out, Hl'.out]; exact hne))
    have hd : ((n : Int) == (n' : Int)) = false := by rw [beq_eq_false_iff_ne]; omega
    have hd' : ((n : Int) != (n' : Int)) = true := by rw [bne_iff_ne]; omega
    go_enter Try.func45, Try.ntmps45
    go_wp2
    go_ret
    exact ⟨by rw [E.out]; rfl, by (repeat (first | exact Below.refl _ _ | assumption | refine Below.drew ?_ | refine Below.alloc ?_ (by first | omega | (simp; done) | (simp; omega) | exact Below.size (by assumption)) _ | refine Below.setCell ?_ (by first | omega | (simp; done) | (simp; omega)) _))⟩

theorem s_SameBlocks (A A' : Option Addr) (n n' c c' : Nat) (l l' : List DBlock) (w : World) (hr : Rd blockE w A n l) (hr' : Rd blockE w A' n' l') (hn : n ≤ maxLen) (hn' : n' ≤ maxLen) :
    Calls Try.prog 23 #[.slice A n c, .slice A' n' c'] w (RetB (sameL DBlock.eqv l l') w) := by
  go_enter Try.func23, Try.ntmps23
  go_wp2_with fail
  refine (s_l29Same A A' n n' c c' l l' _ hr hr' hn hn').mono ?_
  rintro e w1 ⟨rfl, hb⟩
  go_wp2
  go_ret
  exact ⟨rfl, hb⟩

theorem i_SameBlocks (A A' : Option Addr) (n n' c c' : Nat) (l l' : List DBlock) (w : World) (hr : Rd blockE w A n l) (hr' : Rd blockE w A' n' l') (hn : n ≤ maxLen) (hn' : n' ≤ maxLen) :
    Calls Try.prog 25 #[.slice A n c, .slice A' n' c'] w (RetB (sameL DBlock.eqv l l') w) := by
  go_enter Try.func25, Try.ntmps25
  go_wp2_with fail
  refine (i_same_Block A A' n n' c c' l l' _ hr hr' hn hn').mono ?_
  rintro e w1 ⟨rfl, hb⟩
  go_wp2
  go_ret
  exact ⟨rfl, hb⟩

theorem S_SameBlocks (A : Option Addr) (n c : Nat) (l : List DBlock) (A' : Option Addr) (n' c' : Nat) (l' : List DBlock) (w : World) (hr : Rd blockE w A n l) (hn : n ≤ 1048576) (hg : ∀ x ∈ l, x.good) (hsum : sumBlock l ≤ 1048576)
    (hr' : Rd blockE w A' n' l') (hn' : n' ≤ 1048576) (hg' : ∀ x ∈ l', x.good) (hsum' : sumBlock l' ≤ 1048576) :
    Calls Try.prog 23 #[.slice A n c, .slice A' n' c'] w (RetB (sameL DBlock.eqv l l') w) :=
  s_SameBlocks A A' n n' c c' l l' w hr hr' (by unfold maxLen; omega) (by unfold maxLen; omega)
theorem I_SameBlocks (A : Option Addr) (n c : Nat) (l : List DBlock) (A' : Option Addr) (n' c' : Nat) (l' : List DBlock) (w : World) (hr : Rd blockE w A n l) (hn : n ≤ 1048576) (hg : ∀ x ∈ l, x.good) (hsum : sumBlock l ≤ 1048576)
    (hr' : Rd blockE w A' n' l') (hn' : n' ≤ 1048576) (hg' : ∀ x ∈ l', x.good) (hsum' : sumBlock l' ≤ 1048576) :
    Calls Try.prog 25 #[.slice A n c, .slice A' n' c'] w (RetB (sameL DBlock.eqv l l') w) :=
  i_SameBlocks A A' n n' c c' l l' w hr hr' (by unfold maxLen; omega) (by unfold maxLen; omega)

end Go.Proofs.Ytnjjipcjmmdniaa
