/- Lines in order: the reference's insertion, the library's sort. -/
import Derived.Test.YtfabijhilfjkcaaRows
import Derived.Test.YtfabijhilfjkcaaShelf
import Derived.Test.YtfabijhilfjkcaaRep
import Derived.Test.YtfabijhilfjkcaaArr
import Derived.Test.YtfabijhilfjkcaaGrow
import Derived.Test.YtfabijhilfjkcaaSortLaw
import Derived.Test.YtfabijhilfjkcaaOrd
import Derived.Lib.OwnBridge
namespace Go.Proofs.Ytfabijhilfjkcaa
set_option linter.unusedVariables false
set_option linter.unusedSimpArgs false
set_option linter.unusedSectionVars false
open Go.RowKit

theorem rep_le {ss : List ByteArray} (h : repB ss = true) : ss.length ≤ 200 := by
  unfold repB at h
  rw [Bool.and_eq_true] at h
  have := of_decide_eq_true h.2
  omega
theorem str_flat (l : List ByteArray) : l.flatMap strE.cells = l.map Value.string := by
  induction l with
  | nil => rfl
  | cons x r ih => rw [List.map_cons, List.flatMap_cons, ih]; rfl
theorem enc_flat (l : List ByteArray) : (l.map fun s => s.data.toList).map encStr = l.flatMap strE.cells := by rw [str_flat]; exact Lib.map_encStr l

open Go.Sort in
/-- slices.Sort on a list of the call's own -/
theorem i_sortS (g n c base : Nat) (l : List ByteArray) (w w0 : World) (hgl : GL strE 9 base w (.slice (some ⟨g, 0, none⟩) n c) l) (hn : n ≤ 4194304) (hb : Below base w0 w) :
    Calls Try.prog 68 #[.slice (some ⟨g, 0, none⟩) n c] w fun e w' => e = .returned (.tuple #[]) ∧ GL strE 9 base w' (.slice (some ⟨g, 0, none⟩) n c) (sortB l) ∧ Below base w0 w' := by
  have hlen := hgl.len
  have h0 : w.ownsRow base 9 1 (.slice (some ⟨g, 0, none⟩) n c) n ((l.map fun s => s.data.toList).map encStr) := by rw [enc_flat]; exact hgl.own.2
  obtain ⟨g', c', e', hbg, hgs, hnc, hcm, hl, hH⟩ := Lib.holds_of_ownsRow h0 (by simp)
  cases e'
  have h1 := Try.slices_Sort_string g 0 c (l.map fun s => s.data.toList) w hH hgs (by simp; omega)
  rw [hl] at h1
  refine h1.mono ?_
  rintro e w' ⟨rfl, k, os, rfl⟩
  have h2 := Lib.ownsRow_putRow (q := k) (k := n) (ys := (l.map fun s => s.data.toList).mergeSort fun x y => decide (x ≤ y)) h0 (by rw [List.length_mergeSort]; exact hl) (Nat.le_refl _)
  have hbelow : Below (w.heap.size) (putRow encStr (Sort.ahead w k) g 0 ((l.map fun s => s.data.toList).mergeSort fun x y => decide (x ≤ y)).toArray) (Sort.grow (putRow encStr (Sort.ahead w k) g 0 ((l.map fun s => s.data.toList).mergeSort fun x y => decide (x ≤ y)).toArray) os) := by
    refine ⟨rfl, rfl, rfl, by simp [Sort.grow], fun j hj => ?_⟩
    rw [heap_grow_old _ _ (by simpa [putRow, mapBlock, Sort.ahead] using hj)]
  have hz : (putRow encStr (Sort.ahead w k) g 0 ((l.map fun s => s.data.toList).mergeSort fun x y => decide (x ≤ y)).toArray).heap.size = w.heap.size := by simp [putRow, mapBlock, Sort.ahead]
  refine ⟨rfl, ?_, (Lib.below_putRow hb hbg).trans (hbelow.mono ?_)⟩
  · have h3 := own_below h2 (by rw [hz]; exact hbelow)
    have e : (((l.map fun s => s.data.toList).mergeSort fun x y => decide (x ≤ y)).take n).map encStr = (sortB l).flatMap strE.cells := by
      rw [← enc_flat, sortB_data, List.take_of_length_le (by rw [List.length_mergeSort]; omega)]
    rw [e] at h3
    unfold GL
    rw [sortB_length, hlen]
    exact h3
  · have := hb.size
    have hb2 : base ≤ w.heap.size := by omega
    exact hb2

end Go.Proofs.Ytfabijhilfjkcaa
