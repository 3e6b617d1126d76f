/- clone, Delete, Insert at Visit; printed by a program of mine. -/
import Derived.Test.YtbgmhlbcohdobaaGreatDoorRows
import Derived.Test.YtbgmhlbcohdobaaGreatDoorCVisit
import Derived.Test.YtbgmhlbcohdobaaGreatDoorArr
import Derived.Test.YtbgmhlbcohdobaaGreatDoorIns
namespace Go.Proofs.YtbgmhlbcohdobaaGreatDoor
set_option linter.unusedVariables false
set_option linter.unusedSimpArgs false
set_option linter.unusedSectionVars false
open Go.RowKit

theorem Tryz.inf_Visit : (Tryz.prog.info? 35).map (fun i => (i.zero, i.size, i.bytes)) = some (some (.agg #[.int .i64 0, .string ⟨#[]⟩, .int .i64 0, .int .i64 0]), 4, 40) := by kernel_rfl

theorem Tryz.zc_Visit : (Builtin.zeroCells (Value.agg #[.int .i64 0, .string ⟨#[]⟩, .int .i64 0, .int .i64 0]).cells 1).toList = [.int .i64 0, .string ⟨#[]⟩, .int .i64 0, .int .i64 0] := by kernel_rfl

set_option maxRecDepth 100000 in
set_option maxHeartbeats 1000000 in
theorem i_cloneVisit (A : Option Addr) (n c : Nat) (l : List DVisit) (w : World) (hr : Rd visitE w A n l) (hn : n ≤ 4194304) :
    Calls Tryz.prog 54 #[.slice A n c] w (RetClone visitE 35 l n w) := by
  obtain ⟨i0, hi, hz0, hz1, hz2⟩ := info_parts Tryz.inf_Visit
  have Hl := Lib.hid hr.1
  obtain ⟨w1, hmk, ho1, hg1⟩ := run_make_own (P := Tryz.prog) w w.heap.size 24 35 i0 _ 4 Tryz.underlying24 hi hz0 hz1 .i64 .i64 n (by rw [hz2]; omega) (by unfold maxLen; omega) (Nat.le_refl _)
  have hb1 : Below w.heap.size w w1 := (Below.refl _ _).grown hg1 (Nat.le_refl _) (fun k hk => by cases hk)
  have hgl0 : GL visitE 35 w.heap.size w1 (.slice (some ⟨w.heap.size, 0, none⟩) 0 n) [] := ho1
  have hr1 := hr.below hb1
  clear ho1 hg1
  go_enter Tryz.func54, Tryz.ntmps54
  go_wp2_with (at_builtin; refine wpList_fitL visitE rfl _ _ 24 rfl w.heap.size 35 i0 Tryz.underlying24 hi hz1 w.heap.size 0 n [] l rfl hgl0 A n c rfl Hl.out (Rd.noneLen hr) (Rd.src hr1) (by omega) w hb1 hb1.size ?_; intro w2 hgl hb2 hs2)
  go_ret
  exact ⟨w.heap.size, by simp, by simpa using hgl, hb2⟩
end Go.Proofs.YtbgmhlbcohdobaaGreatDoor
