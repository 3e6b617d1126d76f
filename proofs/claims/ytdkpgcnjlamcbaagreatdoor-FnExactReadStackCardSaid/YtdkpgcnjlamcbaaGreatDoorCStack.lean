/- Stack: how one lies, and the law files' helpers on it. -/
import Derived.Test.YtdkpgcnjlamcbaaGreatDoorRows
import Derived.Test.YtdkpgcnjlamcbaaGreatDoorMem
import Derived.Test.YtdkpgcnjlamcbaaGreatDoorLaw
import Derived.Test.YtdkpgcnjlamcbaaGreatDoorConvS
import Derived.Test.YtdkpgcnjlamcbaaGreatDoorMarks
import Derived.StillTailTactics
import Derived.Laws.StructEq
namespace Go.Proofs.YtdkpgcnjlamcbaaGreatDoor
set_option linter.unusedVariables false
set_option linter.unusedSimpArgs false
set_option linter.unusedSectionVars false
open Go.RowKit

structure DStack where
  fId : ByteArray
  fMoisture : Int
  fThick : Int
  fSince : Int
def stackE : Enc DStack := ⟨4, fun x => [.string x.fId, .int .i64 x.fMoisture, .int .i64 x.fThick, .int .i64 x.fSince], fun _ => rfl, by decide, fun _ u h => by simp at h; rcases h with rfl | rfl | rfl | rfl <;> rfl⟩
def DStack.val (x : DStack) : Value := .agg #[.string x.fId, .int .i64 x.fMoisture, .int .i64 x.fThick, .int .i64 x.fSince]
def DStack.good (x : DStack) : Prop := x.fId.size ≤ maxLen ∧ (-9223372036854775808 ≤ x.fMoisture ∧ x.fMoisture ≤ 9223372036854775807) ∧ (-9223372036854775808 ≤ x.fThick ∧ x.fThick ≤ 9223372036854775807) ∧ (-9223372036854775808 ≤ x.fSince ∧ x.fSince ≤ 9223372036854775807)
def DStack.sz (x : DStack) : Int := x.fId.size
def sumStack : List DStack → Int
  | [] => 0
  | x :: r => x.sz + sumStack r
theorem DStack.sz_nonneg (x : DStack) : 0 ≤ x.sz := by unfold DStack.sz; omega
theorem sumStack_nonneg (l : List DStack) : 0 ≤ sumStack l := by
  induction l with
  | nil => simp [sumStack]
  | cons s r ih => have := s.sz_nonneg; simp only [sumStack]; omega
theorem sumStack_mem {l : List DStack} {x : DStack} (h : x ∈ l) : x.sz ≤ sumStack l := by
  induction l with
  | nil => cases h
  | cons y r ih =>
    have h0 := sumStack_nonneg r
    have h1 := y.sz_nonneg
    simp only [sumStack]
    cases List.mem_cons.1 h with
    | inl e => subst e; omega
    | inr e => have := ih e; omega


/-- whether two are the same, field by field -/
def DStack.eqv (x y : DStack) : Bool := (x.fId.toList == y.fId.toList) && ((x.fMoisture == y.fMoisture) && ((x.fThick == y.fThick) && (x.fSince == y.fSince)))
theorem DStack.eqv_iff (x y : DStack) : x.eqv y = true ↔ x = y := by
  constructor
  · intro h
    simp only [DStack.eqv, Bool.and_eq_true, beq_iff_eq] at h
    obtain ⟨e0, e1, e2, e3⟩ := h
    cases x; cases y
    simp only [DStack.mk.injEq]
    exact ⟨ba_ext (by simpa [ByteArray.toList_eq] using e0), e1, e2, e3⟩
  · rintro rfl
    simp [DStack.eqv]

theorem run_eql_Stack (x y : DStack) (w : World) : (binOp .eql 23 (.agg #[.string x.fId, .int .i64 x.fMoisture, .int .i64 x.fThick, .int .i64 x.fSince]) (.agg #[.string y.fId, .int .i64 y.fMoisture, .int .i64 y.fThick, .int .i64 y.fSince])).run Tryz.prog w = .ok (.bool (x.eqv y)) w := by
  have hS : Tryz.prog.underlying 23 = some (.struct (Tryz.prog.fieldsOf 23)) := by kernel_rfl
  have hp : Tryz.prog.stoodInHeld 23 = false := by kernel_rfl
  rw [run_eql_struct, show (10000 : Nat) = 9999 + 1 from rfl, run_equalIn_agg w 9999 23 _ _ hS hp]
  simp only [Program.fieldsOf, Tryz.underlying23]
  go_simp
  unfold DStack.eqv
  rcases h0 : (x.fId.toList == y.fId.toList) with _ | _ <;> rcases h1 : (x.fMoisture == y.fMoisture) with _ | _ <;> rcases h2 : (x.fThick == y.fThick) with _ | _ <;> rcases h3 : (x.fSince == y.fSince) with _ | _ <;> simp_all
theorem run_neq_Stack (x y : DStack) (w : World) : (binOp .neq 23 (.agg #[.string x.fId, .int .i64 x.fMoisture, .int .i64 x.fThick, .int .i64 x.fSince]) (.agg #[.string y.fId, .int .i64 y.fMoisture, .int .i64 y.fThick, .int .i64 y.fSince])).run Tryz.prog w = .ok (.bool (!x.eqv y)) w := by
  have hS : Tryz.prog.underlying 23 = some (.struct (Tryz.prog.fieldsOf 23)) := by kernel_rfl
  have hp : Tryz.prog.stoodInHeld 23 = false := by kernel_rfl
  rw [run_neq_struct, show (10000 : Nat) = 9999 + 1 from rfl, run_equalIn_agg w 9999 23 _ _ hS hp]
  simp only [Program.fieldsOf, Tryz.underlying23]
  go_simp
  unfold DStack.eqv
  rcases h0 : (x.fId.toList == y.fId.toList) with _ | _ <;> rcases h1 : (x.fMoisture == y.fMoisture) with _ | _ <;> rcases h2 : (x.fThick == y.fThick) with _ | _ <;> rcases h3 : (x.fSince == y.fSince) with _ | _ <;> simp_all

set_option maxHeartbeats 400000 in
theorem l_eqStack (x : DStack) (w : World) :
    Calls Tryz.prog 6 #[.agg #[.string x.fId, .int .i64 x.fMoisture, .int .i64 x.fThick, .int .i64 x.fSince], .agg #[.string x.fId, .int .i64 x.fMoisture, .int .i64 x.fThick, .int .i64 x.fSince]] w (RetB true w) := by
  go_enter Tryz.func6, Tryz.ntmps6
  go_wp2
  go_ret
  exact ⟨rfl, by (repeat (first | exact Below.refl _ _ | assumption | refine Below.drew ?_ | refine Below.alloc ?_ (by first | omega | (simp; done) | (simp; omega) | exact Below.size (by assumption)) _ | refine Below.setCell ?_ (by first | omega | (simp; done) | (simp; omega)) _))⟩

def mark1Stack (m : Nat) : DStack := ⟨mt (m + 0), ((m + 1 : Nat) : Int), ((m + 2 : Nat) : Int), ((m + 3 : Nat) : Int)⟩
def markLStack (n k : Nat) : List DStack := (List.range n).map fun i => mark1Stack (k + 4 * i)
theorem markLStack_get (n k i : Nat) (h : i < n) : (markLStack n k)[i]? = some (mark1Stack (k + 4 * i)) := by simp [markLStack, h]
theorem markLStack_len (n k : Nat) : (markLStack n k).length = n := by simp [markLStack]

end Go.Proofs.YtdkpgcnjlamcbaaGreatDoor

