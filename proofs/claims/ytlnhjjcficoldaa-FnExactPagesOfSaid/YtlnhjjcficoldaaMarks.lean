/- The law files' marks on lists of strings and numbers. -/
import Derived.Test.YtlnhjjcficoldaaRows
import Derived.Test.YtlnhjjcficoldaaMem
import Derived.Test.YtlnhjjcficoldaaConvS
import Derived.Deep.RegionHeld3
namespace Go.Proofs.Ytlnhjjcficoldaa
set_option linter.unusedVariables false
set_option linter.unusedSimpArgs false
set_option linter.unusedSectionVars false
open Go.RowKit

/-- what marking answers: the next number; the list holds the marks; only F has been written -/
def MarkR {α : Type} (E : Enc α) (et : TypeId) (F : Nat → Prop) (A : Option Addr) (n c : Nat) (l : List α) (r : Int) (w : World) (e : Ending) (w' : World) : Prop :=
  e = .returned (.int .i64 r) ∧ OL E et F w' A n c l ∧ Touch F w w'
/-- what holding answers -/
def HeldR (r : Int) (w : World) (e : Ending) (w' : World) : Prop := e = .returned (.int .i64 r) ∧ Below w.heap.size w w'

def markLS (n k : Nat) : List ByteArray := (List.range n).map fun i => mt (k + i)
theorem markLS_get (n k i : Nat) (h : i < n) : (markLS n k)[i]? = some (mt (k + i)) := by simp [markLS, h]
theorem markLS_len (n k : Nat) : (markLS n k).length = n := by simp [markLS]
def markLI (n k : Nat) : List Int := (List.range n).map fun i => ((k + i : Nat) : Int)
theorem markLI_get (n k i : Nat) (h : i < n) : (markLI n k)[i]? = some ((k + i : Nat) : Int) := by simp [markLI, h]
theorem markLI_len (n k : Nat) : (markLI n k).length = n := by simp [markLI]

set_option maxHeartbeats 400000 in
theorem l_markStringS (F : Nat → Prop) (A : Option Addr) (n c : Nat) (l : List ByteArray) (k0 : Int) (w : World) (hO : OL strE 9 F w A n c l) (hn : n ≤ 549755813888) (h0 : 0 ≤ k0) (h1 : k0 ≤ 549755813888) :
    Calls Try.prog 10 #[.slice A n c, .int .i64 k0] w (MarkR strE 9 F A n c (markLS n k0.toNat) (k0 + n) w) := by
  obtain ⟨m, rfl⟩ := Int.eq_ofNat_of_zero_le h0
  rw [Int.toNat_natCast]
  have HM := Lib.hid (markLS_len n m)
  go_enter Try.func10, Try.ntmps10
  go_wp2_with fail
  go_loopw [1, 5] (fun t i wr => ∃ k : Nat, k ≤ n ∧ i = .int .i64 k ∧ t = .int .i64 (m + k) ∧ PartV strE 9 0 A n c (markLS n m) k wr ∧ Touch F w wr) (fun _ i _ => n - (intOf i).toNat)
  case atStart => exact ⟨0, Nat.zero_le _, rfl, by go_num, PartV.start hO.1 hO.2.1, Touch.refl F w⟩
  case round =>
    obtain ⟨k, hk, rfl, rfl, hp, ht⟩ := hrel
    by_cases hkn : k < n
    · obtain ⟨g, rfl⟩ := hp.form (by omega)
      have hFg := hO.2.2 g rfl
      have HK := Lib.hid (markLS_get n m k hkn)
      go_wp2_with fail
      have hc := l_markText (m + k) wr (by omega)
      rw [show (((m + k : Nat) : Int)) = (m : Int) + k from by omega] at hc
      refine hc.mono ?_
      clear hc
      rintro e w1 ⟨rfl, hb1⟩
      have hp1 := hp.below hb1
      obtain ⟨u, hu⟩ := hp1.cell (j := k) (by simp only [strE]; omega)
      have hf := hp1.free k
      have HP := Lib.hid (hp1.set1 HK.out hkn rfl rfl)
      have ht1 : Touch F w (w1.setCell ⟨g, k, none⟩ (.string (mt (m + k)))) := (ht.trans (Touch.of_below hb1)).trans (Touch.setCell (p := ⟨g, k, none⟩) hFg _)
      go_wp2
      first | (refine ⟨⟨k + 1, by omega, by go_num, by go_num, HP.out, ht1⟩, ?_⟩; (simp [intOf]; omega)) | (go_roundw; (case rel => first | exact ⟨k + 1, by omega, by go_num, by go_num, HP.out, ht1⟩ | ((try refine ⟨trivial, ?_⟩); (repeat apply Exists.intro); exact ⟨⟨k + 1, by omega, by go_num, by go_num, HP.out, ht1⟩, rfl⟩)); (case measure => (simp [intOf]; omega)))
    · go_wp2
      go_ret
      obtain rfl : k = n := by omega
      exact ⟨by go_num, ⟨hp.done HM.out (Nat.le_refl _), HM.out, hO.2.2⟩, ht⟩

set_option maxHeartbeats 400000 in
theorem l_heldStringS (F : Nat → Prop) (A : Option Addr) (n c : Nat) (k0 : Int) (w : World) (hO : OL strE 9 F w A n c (markLS n k0.toNat)) (hn : n ≤ 549755813888) (h0 : 0 ≤ k0) (h1 : k0 ≤ 549755813888) :
    Calls Try.prog 21 #[.slice A n c, .int .i64 k0] w (HeldR (k0 + n) w) := by
  obtain ⟨m, rfl⟩ := Int.eq_ofNat_of_zero_le h0
  rw [Int.toNat_natCast] at hO
  have hr := hO.rd
  go_enter Try.func21, Try.ntmps21
  go_wp2_with fail
  go_loopw [1, 5] (fun t i wr => ∃ k : Nat, k ≤ n ∧ i = .int .i64 k ∧ t = .int .i64 (m + k) ∧ Below w.heap.size w wr) (fun _ i _ => n - (intOf i).toNat)
  case atStart => exact ⟨0, Nat.zero_le _, rfl, by go_num, Below.refl _ _⟩
  case round =>
    obtain ⟨k, hk, rfl, rfl, hb⟩ := hrel
    by_cases hkn : k < n
    · obtain ⟨b, off, s, rfl, hks, hc⟩ := hr.get hkn
      obtain rfl : s = mt (m + k) := Option.some.inj (hks.symm.trans (markLS_get n m k hkn))
      have hc0 := range_below (B := 0) hc hb 0 (.string (mt (m + k))) rfl
      simp only [strE, Nat.mul_one, Nat.add_zero] at hc0
      have hlt : b < w.heap.size := World.block_lt_of_cell? w _ (hc 0 (.string (mt (m + k))) rfl)
      clear hks hc
      have hM := fun W => l_markText (m + k) W (by omega)
      rw [show (((m + k : Nat) : Int)) = (m : Int) + k from by omega] at hM
      have HM := Lib.hid hM; clear hM
      go_wp2_with fail
      go_region_held3 (fun w' => w'.cell? ⟨b, off + k, none⟩ = some (.string (mt (m + k))) ∧ Below w.heap.size w w') (first | exact ⟨hc0, hb.drew⟩ | (go_split_ands; exact ⟨cell_later hb1 (by assumption), Below.trans (by assumption) (hb1.mono (Below.size (by assumption)))⟩) | (go_split_ands; exact ⟨by assumption, by assumption⟩))
        (first | (go_at_call 20; refine (HM.out _).mono ?_; rintro e w1 ⟨rfl, hb1⟩))
      rename_i hh
      obtain ⟨_, hb2⟩ := hh
      go_wp2
      first | (refine ⟨⟨k + 1, by omega, by go_num, by go_num, hb2⟩, ?_⟩; (simp [intOf]; omega)) | (go_roundw; (case rel => first | exact ⟨k + 1, by omega, by go_num, by go_num, hb2⟩ | ((try refine ⟨trivial, ?_⟩); (repeat apply Exists.intro); exact ⟨⟨k + 1, by omega, by go_num, by go_num, hb2⟩, rfl⟩)); (case measure => (simp [intOf]; omega)))
    · go_wp2
      go_ret
      obtain rfl : k = n := by omega
      exact ⟨by go_num, hb⟩

end Go.Proofs.Ytlnhjjcficoldaa
