/- Mode: how one lies, and the law files' helpers on it. -/
import Derived.Test.YtdpgnlclcakhkaaDoorRows
import Derived.Test.YtdpgnlclcakhkaaDoorMem
import Derived.Test.YtdpgnlclcakhkaaDoorLaw
import Derived.Test.YtdpgnlclcakhkaaDoorConvS
import Derived.Test.YtdpgnlclcakhkaaDoorMarks
import Derived.StillTailTactics
import Derived.Laws.StructEq
namespace Go.Proofs.YtdpgnlclcakhkaaDoor
set_option linter.unusedVariables false
set_option linter.unusedSimpArgs false
set_option linter.unusedSectionVars false
open Go.RowKit

structure DMode where
  fId : ByteArray
  fTone : Int
  fLoss : Int
def modeE : Enc DMode := ⟨3, fun x => [.string x.fId, .int .i64 x.fTone, .int .i64 x.fLoss], fun _ => rfl, by decide, fun _ u h => by simp at h; rcases h with rfl | rfl | rfl <;> rfl⟩
def DMode.val (x : DMode) : Value := .agg #[.string x.fId, .int .i64 x.fTone, .int .i64 x.fLoss]
def DMode.good (x : DMode) : Prop := x.fId.size ≤ maxLen ∧ (-9223372036854775808 ≤ x.fTone ∧ x.fTone ≤ 9223372036854775807) ∧ (-9223372036854775808 ≤ x.fLoss ∧ x.fLoss ≤ 9223372036854775807)
def DMode.sz (x : DMode) : Int := x.fId.size
def sumMode : List DMode → Int
  | [] => 0
  | x :: r => x.sz + sumMode r
theorem DMode.sz_nonneg (x : DMode) : 0 ≤ x.sz := by unfold DMode.sz; omega
theorem sumMode_nonneg (l : List DMode) : 0 ≤ sumMode l := by
  induction l with
  | nil => simp [sumMode]
  | cons s r ih => have := s.sz_nonneg; simp only [sumMode]; omega
theorem sumMode_mem {l : List DMode} {x : DMode} (h : x ∈ l) : x.sz ≤ sumMode l := by
  induction l with
  | nil => cases h
  | cons y r ih =>
    have h0 := sumMode_nonneg r
    have h1 := y.sz_nonneg
    simp only [sumMode]
    cases List.mem_cons.1 h with
    | inl e => subst e; omega
    | inr e => have := ih e; omega


/-- whether two are the same, field by field -/
def DMode.eqv (x y : DMode) : Bool := (x.fId.toList == y.fId.toList) && ((x.fTone == y.fTone) && (x.fLoss == y.fLoss))
theorem DMode.eqv_iff (x y : DMode) : x.eqv y = true ↔ x = y := by
  constructor
  · intro h
    simp only [DMode.eqv, Bool.and_eq_true, beq_iff_eq] at h
    obtain ⟨e0, e1, e2⟩ := h
    cases x; cases y
    simp only [DMode.mk.injEq]
    exact ⟨ba_ext (by simpa [ByteArray.toList_eq] using e0), e1, e2⟩
  · rintro rfl
    simp [DMode.eqv]

theorem run_eql_Mode (x y : DMode) (w : World) : (binOp .eql 34 (.agg #[.string x.fId, .int .i64 x.fTone, .int .i64 x.fLoss]) (.agg #[.string y.fId, .int .i64 y.fTone, .int .i64 y.fLoss])).run Tryd.prog w = .ok (.bool (x.eqv y)) w := by
  have hS : Tryd.prog.underlying 34 = some (.struct (Tryd.prog.fieldsOf 34)) := by kernel_rfl
  have hp : Tryd.prog.stoodInHeld 34 = false := by kernel_rfl
  rw [run_eql_struct, show (10000 : Nat) = 9999 + 1 from rfl, run_equalIn_agg w 9999 34 _ _ hS hp]
  simp only [Program.fieldsOf, Tryd.underlying34]
  go_simp
  unfold DMode.eqv
  rcases h0 : (x.fId.toList == y.fId.toList) with _ | _ <;> rcases h1 : (x.fTone == y.fTone) with _ | _ <;> rcases h2 : (x.fLoss == y.fLoss) with _ | _ <;> simp_all
theorem run_neq_Mode (x y : DMode) (w : World) : (binOp .neq 34 (.agg #[.string x.fId, .int .i64 x.fTone, .int .i64 x.fLoss]) (.agg #[.string y.fId, .int .i64 y.fTone, .int .i64 y.fLoss])).run Tryd.prog w = .ok (.bool (!x.eqv y)) w := by
  have hS : Tryd.prog.underlying 34 = some (.struct (Tryd.prog.fieldsOf 34)) := by kernel_rfl
  have hp : Tryd.prog.stoodInHeld 34 = false := by kernel_rfl
  rw [run_neq_struct, show (10000 : Nat) = 9999 + 1 from rfl, run_equalIn_agg w 9999 34 _ _ hS hp]
  simp only [Program.fieldsOf, Tryd.underlying34]
  go_simp
  unfold DMode.eqv
  rcases h0 : (x.fId.toList == y.fId.toList) with _ | _ <;> rcases h1 : (x.fTone == y.fTone) with _ | _ <;> rcases h2 : (x.fLoss == y.fLoss) with _ | _ <;> simp_all

set_option maxHeartbeats 400000 in
theorem l_eqMode (x : DMode) (w : World) :
    Calls Tryd.prog 23 #[.agg #[.string x.fId, .int .i64 x.fTone, .int .i64 x.fLoss], .agg #[.string x.fId, .int .i64 x.fTone, .int .i64 x.fLoss]] w (RetB true w) := by
  go_enter Tryd.func23, Tryd.ntmps23
  go_wp2
  go_ret
  exact ⟨rfl, by (repeat (first | exact Below.refl _ _ | assumption | refine Below.drew ?_ | refine Below.alloc ?_ (by first | omega | (simp; done) | (simp; omega) | exact Below.size (by assumption)) _ | refine Below.setCell ?_ (by first | omega | (simp; done) | (simp; omega)) _))⟩

def mark1Mode (m : Nat) : DMode := ⟨mt (m + 0), ((m + 1 : Nat) : Int), ((m + 2 : Nat) : Int)⟩
def markLMode (n k : Nat) : List DMode := (List.range n).map fun i => mark1Mode (k + 3 * i)
theorem markLMode_get (n k i : Nat) (h : i < n) : (markLMode n k)[i]? = some (mark1Mode (k + 3 * i)) := by simp [markLMode, h]
theorem markLMode_len (n k : Nat) : (markLMode n k).length = n := by simp [markLMode]

end Go.Proofs.YtdpgnlclcakhkaaDoor

