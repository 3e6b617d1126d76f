/- Lines in order: the reference's insertion, the library's sort. -/
import Derived.Test.YtbgmhlbcohdobaaGreatDoorRows
import Derived.Test.YtbgmhlbcohdobaaGreatDoorShelf
import Derived.Test.YtbgmhlbcohdobaaGreatDoorRep
import Derived.Test.YtbgmhlbcohdobaaGreatDoorArr
import Derived.Test.YtbgmhlbcohdobaaGreatDoorGrow
import Derived.Test.YtbgmhlbcohdobaaGreatDoorSortLaw
import Derived.Test.YtbgmhlbcohdobaaGreatDoorOrd
import Derived.Lib.OwnBridge
namespace Go.Proofs.YtbgmhlbcohdobaaGreatDoor
set_option linter.unusedVariables false
set_option linter.unusedSimpArgs false
set_option linter.unusedSectionVars false
open Go.RowKit

theorem rep_le {ss : List ByteArray} (h : repB ss = true) : ss.length ≤ 200 := by
  unfold repB at h
  rw [Bool.and_eq_true] at h
  have := of_decide_eq_true h.2
  omega
theorem str_flat (l : List ByteArray) : l.flatMap strE.cells = l.map Value.string := by
  induction l with
  | nil => rfl
  | cons x r ih => rw [List.map_cons, List.flatMap_cons, ih]; rfl
theorem enc_flat (l : List ByteArray) : (l.map fun s => s.data.toList).map encStr = l.flatMap strE.cells := by rw [str_flat]; exact Lib.map_encStr l

set_option maxHeartbeats 1000000 in
theorem i_cloneS (A : Option Addr) (n c : Nat) (l : List ByteArray) (w : World) (hr : Rd strE w A n l) (hn : n ≤ 4194304) :
    Calls Tryz.prog 24 #[.slice A n c] w (RetClone strE 9 l n w) := by
  obtain ⟨i0, hi, hz0, hz1, hz2⟩ := info_parts Tryz.info_str
  have Hl := Lib.hid hr.1
  obtain ⟨w1, hmk, ho1, hg1⟩ := run_make_own (P := Tryz.prog) w w.heap.size 26 9 i0 _ 1 Tryz.underlying26 hi hz0 hz1 .i64 .i64 n (by rw [hz2]; omega) (by unfold maxLen; omega) (Nat.le_refl _)
  have hb1 : Below w.heap.size w w1 := (Below.refl _ _).grown hg1 (Nat.le_refl _) (fun k hk => by cases hk)
  have hgl0 : GL strE 9 w.heap.size w1 (.slice (some ⟨w.heap.size, 0, none⟩) 0 n) [] := ho1
  have hr1 := hr.below hb1
  have HZ := Lib.hid hz1
  clear ho1 hg1 hz1
  go_enter Tryz.func24, Tryz.ntmps24
  go_wp2_with (at_builtin; refine wpList_fitL strE rfl _ _ 26 rfl w.heap.size 9 i0 Tryz.underlying26 hi HZ.out w.heap.size 0 n [] l rfl hgl0 A n c rfl Hl.out (Rd.noneLen hr) (Rd.src hr1) (by omega) w hb1 hb1.size ?_; intro w2 hgl hb2 hs2)
  go_ret
  exact ⟨w.heap.size, by simp, by simpa using hgl, hb2⟩

open Go.Sort in
/-- slices.Sort on a list of the call's own -/
theorem i_sortS (g n c base : Nat) (l : List ByteArray) (w w0 : World) (hgl : GL strE 9 base w (.slice (some ⟨g, 0, none⟩) n c) l) (hn : n ≤ 4194304) (hb : Below base w0 w) :
    Calls Tryz.prog 49 #[.slice (some ⟨g, 0, none⟩) n c] w fun e w' => e = .returned (.tuple #[]) ∧ GL strE 9 base w' (.slice (some ⟨g, 0, none⟩) n c) (sortB l) ∧ Below base w0 w' := by
  have hlen := hgl.len
  have h0 : w.ownsRow base 9 1 (.slice (some ⟨g, 0, none⟩) n c) n ((l.map fun s => s.data.toList).map encStr) := by rw [enc_flat]; exact hgl.own.2
  obtain ⟨g', c', e', hbg, hgs, hnc, hcm, hl, hH⟩ := Lib.holds_of_ownsRow h0 (by simp)
  cases e'
  have h1 := Tryz.slices_Sort_string g 0 c (l.map fun s => s.data.toList) w hH hgs (by simp; omega)
  rw [hl] at h1
  refine h1.mono ?_
  rintro e w' ⟨rfl, k, os, rfl⟩
  have h2 := Lib.ownsRow_putRow (q := k) (k := n) (ys := (l.map fun s => s.data.toList).mergeSort fun x y => decide (x ≤ y)) h0 (by rw [List.length_mergeSort]; exact hl) (Nat.le_refl _)
  have hbelow : Below (w.heap.size) (putRow encStr (Sort.ahead w k) g 0 ((l.map fun s => s.data.toList).mergeSort fun x y => decide (x ≤ y)).toArray) (Sort.grow (putRow encStr (Sort.ahead w k) g 0 ((l.map fun s => s.data.toList).mergeSort fun x y => decide (x ≤ y)).toArray) os) := by
    refine ⟨rfl, rfl, rfl, by simp [Sort.grow], fun j hj => ?_⟩
    rw [heap_grow_old _ _ (by simpa [putRow, mapBlock, Sort.ahead] using hj)]
  have hz : (putRow encStr (Sort.ahead w k) g 0 ((l.map fun s => s.data.toList).mergeSort fun x y => decide (x ≤ y)).toArray).heap.size = w.heap.size := by simp [putRow, mapBlock, Sort.ahead]
  refine ⟨rfl, ?_, (Lib.below_putRow hb hbg).trans (hbelow.mono ?_)⟩
  · have h3 := own_below h2 (by rw [hz]; exact hbelow)
    have e : (((l.map fun s => s.data.toList).mergeSort fun x y => decide (x ≤ y)).take n).map encStr = (sortB l).flatMap strE.cells := by
      rw [← enc_flat, sortB_data, List.take_of_length_le (by rw [List.length_mergeSort]; omega)]
    rw [e] at h3
    unfold GL
    rw [sortB_length, hlen]
    exact h3
  · have := hb.size
    have hb2 : base ≤ w.heap.size := by omega
    exact hb2

end Go.Proofs.YtbgmhlbcohdobaaGreatDoor
