/- The law files' marks on lists of strings and numbers. -/
import Derived.Test.YtiaibjdppmgjlaaDoorRows
import Derived.Test.YtiaibjdppmgjlaaDoorMem
import Derived.Test.YtiaibjdppmgjlaaDoorConvS
import Derived.Deep.RegionHeld3
namespace Go.Proofs.YtiaibjdppmgjlaaDoor
set_option linter.unusedVariables false
set_option linter.unusedSimpArgs false
set_option linter.unusedSectionVars false
open Go.RowKit

/-- what marking answers: the next number; the list holds the marks; only F has been written -/
def MarkR {α : Type} (E : Enc α) (et : TypeId) (F : Nat → Prop) (A : Option Addr) (n c : Nat) (l : List α) (r : Int) (w : World) (e : Ending) (w' : World) : Prop :=
  e = .returned (.int .i64 r) ∧ OL E et F w' A n c l ∧ Touch F w w'
/-- what holding answers -/
def HeldR (r : Int) (w : World) (e : Ending) (w' : World) : Prop := e = .returned (.int .i64 r) ∧ Below w.heap.size w w'

def markLS (n k : Nat) : List ByteArray := (List.range n).map fun i => mt (k + i)
theorem markLS_get (n k i : Nat) (h : i < n) : (markLS n k)[i]? = some (mt (k + i)) := by simp [markLS, h]
theorem markLS_len (n k : Nat) : (markLS n k).length = n := by simp [markLS]
def markLI (n k : Nat) : List Int := (List.range n).map fun i => ((k + i : Nat) : Int)
theorem markLI_get (n k i : Nat) (h : i < n) : (markLI n k)[i]? = some ((k + i : Nat) : Int) := by simp [markLI, h]
theorem markLI_len (n k : Nat) : (markLI n k).length = n := by simp [markLI]

set_option maxHeartbeats 400000 in
theorem l_markInt64S (F : Nat → Prop) (A : Option Addr) (n c : Nat) (l : List Int) (k0 : Int) (w : World) (hO : OL intE 2 F w A n c l) (hn : n ≤ 549755813888) (h0 : 0 ≤ k0) (h1 : k0 ≤ 549755813888) :
    Calls Tryd.prog 22 #[.slice A n c, .int .i64 k0] w (MarkR intE 2 F A n c (markLI n k0.toNat) (k0 + n) w) := by
  obtain ⟨m, rfl⟩ := Int.eq_ofNat_of_zero_le h0
  rw [Int.toNat_natCast]
  have HM := Lib.hid (markLI_len n m)
  go_enter Tryd.func22, Tryd.ntmps22
  go_wp2_with fail
  go_loopw [1, 5] (fun t i wr => ∃ k : Nat, k ≤ n ∧ i = .int .i64 k ∧ t = .int .i64 (m + k) ∧ PartV intE 2 0 A n c (markLI n m) k wr ∧ Touch F w wr) (fun _ i _ => n - (intOf i).toNat)
  case atStart => exact ⟨0, Nat.zero_le _, rfl, by go_num, PartV.start hO.1 hO.2.1, Touch.refl F w⟩
  case round =>
    obtain ⟨k, hk, rfl, rfl, hp, ht⟩ := hrel
    by_cases hkn : k < n
    · obtain ⟨g, rfl⟩ := hp.form (by omega)
      have hFg := hO.2.2 g rfl
      obtain ⟨u, hu⟩ := hp.cell (j := k) (by simp only [intE]; omega)
      have hf := hp.free k
      have HP : Hid (PartV intE 2 0 (some ⟨g, 0, none⟩) n c (markLI n m) (k + 1) (wr.setCell ⟨g, k, none⟩ (.int .i64 ((m : Int) + k)))) := Lib.hid (by
        have := hp.set1 (markLI_get n m k hkn) hkn rfl rfl
        rw [show (((m + k : Nat) : Int)) = (m : Int) + k from by omega] at this
        exact this)
      have ht1 : Touch F w (wr.setCell ⟨g, k, none⟩ (.int .i64 ((m : Int) + k))) := ht.trans (Touch.setCell (p := ⟨g, k, none⟩) hFg _)
      go_wp2
      first | (refine ⟨⟨k + 1, by omega, by go_num, by go_num, HP.out, ht1⟩, ?_⟩; (simp [intOf]; omega)) | (go_roundw; (case rel => first | exact ⟨k + 1, by omega, by go_num, by go_num, HP.out, ht1⟩ | ((try refine ⟨trivial, ?_⟩); (repeat apply Exists.intro); exact ⟨⟨k + 1, by omega, by go_num, by go_num, HP.out, ht1⟩, rfl⟩)); (case measure => (simp [intOf]; omega)))
    · go_wp2
      go_ret
      obtain rfl : k = n := by omega
      exact ⟨by go_num, ⟨hp.done HM.out (Nat.le_refl _), HM.out, hO.2.2⟩, ht⟩

set_option maxHeartbeats 400000 in
theorem l_heldInt64S (F : Nat → Prop) (A : Option Addr) (n c : Nat) (k0 : Int) (w : World) (hO : OL intE 2 F w A n c (markLI n k0.toNat)) (hn : n ≤ 549755813888) (h0 : 0 ≤ k0) (h1 : k0 ≤ 549755813888) :
    Calls Tryd.prog 23 #[.slice A n c, .int .i64 k0] w (HeldR (k0 + n) w) := by
  obtain ⟨m, rfl⟩ := Int.eq_ofNat_of_zero_le h0
  rw [Int.toNat_natCast] at hO
  have hr := hO.rd
  go_enter Tryd.func23, Tryd.ntmps23
  go_wp2_with fail
  go_loopw [1, 5] (fun t i wr => ∃ k : Nat, k ≤ n ∧ i = .int .i64 k ∧ t = .int .i64 (m + k) ∧ Below w.heap.size w wr) (fun _ i _ => n - (intOf i).toNat)
  case atStart => exact ⟨0, Nat.zero_le _, rfl, by go_num, Below.refl _ _⟩
  case round =>
    obtain ⟨k, hk, rfl, rfl, hb⟩ := hrel
    by_cases hkn : k < n
    · obtain ⟨b, off, s, rfl, hks, hc⟩ := hr.get hkn
      obtain rfl : s = ((m + k : Nat) : Int) := Option.some.inj (hks.symm.trans (markLI_get n m k hkn))
      have hc0 := range_below (B := 0) hc hb 0 (.int .i64 ((m + k : Nat) : Int)) rfl
      rw [show (((m + k : Nat) : Int)) = (m : Int) + k from by omega] at hc0
      simp only [intE, Nat.mul_one, Nat.add_zero] at hc0
      clear hks hc
      go_wp2
      first | skip | go_quiet (fail)
      go_wp2
      first | (refine ⟨⟨k + 1, by omega, by go_num, by go_num, (by first | exact hb | exact below_drewN hb _)⟩, ?_⟩; (simp [intOf]; omega)) | (go_roundw; (case rel => first | exact ⟨k + 1, by omega, by go_num, by go_num, (by first | exact hb | exact below_drewN hb _)⟩ | ((try refine ⟨trivial, ?_⟩); (repeat apply Exists.intro); exact ⟨⟨k + 1, by omega, by go_num, by go_num, (by first | exact hb | exact below_drewN hb _)⟩, rfl⟩)); (case measure => (simp [intOf]; omega)))
    · go_wp2
      go_ret
      obtain rfl : k = n := by omega
      exact ⟨by go_num, hb⟩

set_option maxHeartbeats 400000 in
theorem l_eqInt64S (A A' : Option Addr) (n c c' : Nat) (ss : List Int) (w : World) (hr : Rd intE w A n ss) (hr' : Rd intE w A' n ss) (hn : n ≤ maxLen) :
    Calls Tryd.prog 21 #[.slice A n c, .slice A' n c'] w (RetB true w) := by
  unfold maxLen at hn
  go_enter Tryd.func21, Tryd.ntmps21
  go_wp2
  go_loopw [5] (fun i wr => ∃ k : Nat, k ≤ n ∧ i = .int .i64 k ∧ Below w.heap.size w wr) (fun i _ => n - (intOf i).toNat)
  case atStart => exact ⟨0, Nat.zero_le _, rfl, by (repeat (first | exact Below.refl _ _ | assumption | refine Below.drew ?_ | refine Below.alloc ?_ (by first | omega | (simp; done) | (simp; omega) | exact Below.size (by assumption)) _ | refine Below.setCell ?_ (by first | omega | (simp; done) | (simp; omega)) _))⟩
  case round =>
    obtain ⟨k, hk, rfl, hb⟩ := hrel
    by_cases hkn : k < n
    · obtain ⟨b, off, s, rfl, hks, hc⟩ := hr.get hkn
      obtain ⟨b', off', s', rfl, hks', hc'⟩ := hr'.get hkn
      obtain rfl : s = s' := Option.some.inj (hks.symm.trans hks')
      have hc0 := range_below (B := 0) hc hb 0 (.int .i64 s) rfl
      have hc0' := range_below (B := 0) hc' hb 0 (.int .i64 s) rfl
      simp only [intE, Nat.mul_one, Nat.add_zero] at hc0 hc0'
      clear hc hc' hks hks'
      go_wp2
      go_quiet (fail)
      go_wp2
      first | (refine ⟨⟨k + 1, by omega, by go_num, below_drewN hb _⟩, ?_⟩; (simp [intOf]; omega)) | (go_roundw; (case rel => first | exact ⟨k + 1, by omega, by go_num, below_drewN hb _⟩ | ((try refine ⟨trivial, ?_⟩); (repeat apply Exists.intro); exact ⟨⟨k + 1, by omega, by go_num, below_drewN hb _⟩, rfl⟩)); (case measure => (simp [intOf]; omega)))
    · go_wp2
      go_ret
      exact ⟨rfl, hb⟩

end Go.Proofs.YtiaibjdppmgjlaaDoor
