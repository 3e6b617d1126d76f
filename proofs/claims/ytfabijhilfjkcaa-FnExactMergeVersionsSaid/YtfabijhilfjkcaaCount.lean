/- How often each line comes in. -/
import Derived.Test.YtfabijhilfjkcaaRows
import Derived.Test.YtfabijhilfjkcaaSort
import Derived.Test.YtfabijhilfjkcaaTwo
import Derived.Test.YtfabijhilfjkcaaCountLaw
namespace Go.Proofs.Ytfabijhilfjkcaa
set_option linter.unusedVariables false
set_option linter.unusedSimpArgs false
set_option linter.unusedSectionVars false
open Go.RowKit

def countU (l : List ByteArray) : List ByteArray := if repB l then uniqB (sortB l) else []
def countC (l : List ByteArray) : List Int := if repB l then cntL (uniqB (sortB l)) l else []
theorem Try.info_i64 : (Try.prog.info? 2).map (fun i => (i.zero, i.size, i.bytes)) = some (some (.int .i64 0), 1, 8) := by kernel_rfl

open Go.Sort in
theorem i_compactS (g n c base : Nat) (S : List ByteArray) (w w0 : World) (hgl : GL strE 9 base w (.slice (some ⟨g, 0, none⟩) n c) S) (hn : n ≤ 4194304) (hb : Below base w0 w) :
    Calls Try.prog 69 #[.slice (some ⟨g, 0, none⟩) n c] w fun e w' => e = .returned (.slice (some ⟨g, 0, none⟩) (uniqB S).length c) ∧ GL strE 9 base w' (.slice (some ⟨g, 0, none⟩) (uniqB S).length c) (uniqB S) ∧ Below base w0 w' := by
  have hlen := hgl.len
  have h0 : w.ownsRow base 9 1 (.slice (some ⟨g, 0, none⟩) n c) n ((S.map fun s => s.data.toList).map encStr) := by rw [enc_flat]; exact hgl.own.2
  obtain ⟨g', c', e', hbg, hgs, hnc, hcm, hl, hH⟩ := Lib.holds_of_ownsRow h0 (by simp)
  cases e'
  have h1 := Try.slices_Compact_string g 0 c (S.map fun s => s.data.toList) w hH (by simp; omega) (by rw [hl]; exact hnc)
  rw [hl, compact_uniqB, List.length_map] at h1
  refine h1.mono ?_
  rintro e w' ⟨rfl, k, rfl⟩
  have hu : (uniqB S).length ≤ n := by rw [← hlen]; exact uniq_len
  have h2 := Lib.ownsRow_putRow (q := k) (k := (uniqB S).length) (ys := ((uniqB S).map fun s => s.data.toList) ++ List.replicate (n - (uniqB S).length) []) h0 (by simp; omega) hu
  rw [List.take_left' (by simp), enc_flat] at h2
  exact ⟨rfl, h2, Lib.below_putRow hb hbg⟩
theorem i_sortedSet (g n c base : Nat) (l : List ByteArray) (w w0 : World) (hgl : GL strE 9 base w (.slice (some ⟨g, 0, none⟩) n c) l) (hn : n ≤ 4194304) (hb : Below base w0 w) :
    Calls Try.prog 61 #[.slice (some ⟨g, 0, none⟩) n c] w fun e w' => e = .returned (.slice (some ⟨g, 0, none⟩) (uniqB (sortB l)).length c) ∧ GL strE 9 base w' (.slice (some ⟨g, 0, none⟩) (uniqB (sortB l)).length c) (uniqB (sortB l)) ∧ Below base w0 w' := by
  go_enter Try.func61, Try.ntmps61
  go_wp2_with fail
  refine (i_sortS g n c base l _ w0 hgl hn hb).mono ?_
  rintro e w1 ⟨rfl, hgl1, hb1⟩
  go_wp2_with fail
  refine (i_compactS g n c base _ _ w0 hgl1 hn hb1).mono ?_
  rintro e w2 ⟨rfl, hgl2, hb2⟩
  go_wp2
  go_ret
  exact ⟨rfl, hgl2, hb2⟩

end Go.Proofs.Ytfabijhilfjkcaa
