/- clone, Delete, Insert at Setting; printed by a program of mine. -/
import Derived.Test.YtfabijhilfjkcaaRows
import Derived.Test.YtfabijhilfjkcaaCSetting
import Derived.Test.YtfabijhilfjkcaaArr
import Derived.Test.YtfabijhilfjkcaaIns
namespace Go.Proofs.Ytfabijhilfjkcaa
set_option linter.unusedVariables false
set_option linter.unusedSimpArgs false
set_option linter.unusedSectionVars false
open Go.RowKit

theorem Try.inf_Setting : (Try.prog.info? 56).map (fun i => (i.zero, i.size, i.bytes)) = some (some (.agg #[.string ⟨#[]⟩, .int .i64 0]), 2, 24) := by kernel_rfl

theorem Try.zc_Setting : (Builtin.zeroCells (Value.agg #[.string ⟨#[]⟩, .int .i64 0]).cells 1).toList = [.string ⟨#[]⟩, .int .i64 0] := by kernel_rfl

set_option maxRecDepth 100000 in
set_option maxHeartbeats 1000000 in
theorem i_cloneSetting (A : Option Addr) (n c : Nat) (l : List DSetting) (w : World) (hr : Rd settingE w A n l) (hn : n ≤ 4194304) :
    Calls Try.prog 51 #[.slice A n c] w (RetClone settingE 56 l n w) := by
  obtain ⟨i0, hi, hz0, hz1, hz2⟩ := info_parts Try.inf_Setting
  have Hl := Lib.hid hr.1
  obtain ⟨w1, hmk, ho1, hg1⟩ := run_make_own (P := Try.prog) w w.heap.size 38 56 i0 _ 2 Try.underlying38 hi hz0 hz1 .i64 .i64 n (by rw [hz2]; omega) (by unfold maxLen; omega) (Nat.le_refl _)
  have hb1 : Below w.heap.size w w1 := (Below.refl _ _).grown hg1 (Nat.le_refl _) (fun k hk => by cases hk)
  have hgl0 : GL settingE 56 w.heap.size w1 (.slice (some ⟨w.heap.size, 0, none⟩) 0 n) [] := ho1
  have hr1 := hr.below hb1
  clear ho1 hg1
  go_enter Try.func51, Try.ntmps51
  go_wp2_with (at_builtin; refine wpList_fitL settingE rfl _ _ 38 rfl w.heap.size 56 i0 Try.underlying38 hi hz1 w.heap.size 0 n [] l rfl hgl0 A n c rfl Hl.out (Rd.noneLen hr) (Rd.src hr1) (by omega) w hb1 hb1.size ?_; intro w2 hgl hb2 hs2)
  go_ret
  exact ⟨w.heap.size, by simp, by simpa using hgl, hb2⟩
end Go.Proofs.Ytfabijhilfjkcaa
