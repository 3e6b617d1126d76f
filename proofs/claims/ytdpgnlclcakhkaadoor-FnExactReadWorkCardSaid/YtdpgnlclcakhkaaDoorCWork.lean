/- Work: how one lies, and the law files' helpers on it. -/
import Derived.Test.YtdpgnlclcakhkaaDoorRows
import Derived.Test.YtdpgnlclcakhkaaDoorMem
import Derived.Test.YtdpgnlclcakhkaaDoorLaw
import Derived.Test.YtdpgnlclcakhkaaDoorConvS
import Derived.Test.YtdpgnlclcakhkaaDoorMarks
import Derived.StillTailTactics
import Derived.Laws.StructEq
namespace Go.Proofs.YtdpgnlclcakhkaaDoor
set_option linter.unusedVariables false
set_option linter.unusedSimpArgs false
set_option linter.unusedSectionVars false
open Go.RowKit

structure DWork where
  fId : ByteArray
  fDays : Int
  fFirst : Int
  fLast : Int
def workE : Enc DWork := ⟨4, fun x => [.string x.fId, .int .i64 x.fDays, .int .i64 x.fFirst, .int .i64 x.fLast], fun _ => rfl, by decide, fun _ u h => by simp at h; rcases h with rfl | rfl | rfl | rfl <;> rfl⟩
def DWork.val (x : DWork) : Value := .agg #[.string x.fId, .int .i64 x.fDays, .int .i64 x.fFirst, .int .i64 x.fLast]
def DWork.good (x : DWork) : Prop := x.fId.size ≤ maxLen ∧ (-9223372036854775808 ≤ x.fDays ∧ x.fDays ≤ 9223372036854775807) ∧ (-9223372036854775808 ≤ x.fFirst ∧ x.fFirst ≤ 9223372036854775807) ∧ (-9223372036854775808 ≤ x.fLast ∧ x.fLast ≤ 9223372036854775807)
def DWork.sz (x : DWork) : Int := x.fId.size
def sumWork : List DWork → Int
  | [] => 0
  | x :: r => x.sz + sumWork r
theorem DWork.sz_nonneg (x : DWork) : 0 ≤ x.sz := by unfold DWork.sz; omega
theorem sumWork_nonneg (l : List DWork) : 0 ≤ sumWork l := by
  induction l with
  | nil => simp [sumWork]
  | cons s r ih => have := s.sz_nonneg; simp only [sumWork]; omega
theorem sumWork_mem {l : List DWork} {x : DWork} (h : x ∈ l) : x.sz ≤ sumWork l := by
  induction l with
  | nil => cases h
  | cons y r ih =>
    have h0 := sumWork_nonneg r
    have h1 := y.sz_nonneg
    simp only [sumWork]
    cases List.mem_cons.1 h with
    | inl e => subst e; omega
    | inr e => have := ih e; omega


/-- whether two are the same, field by field -/
def DWork.eqv (x y : DWork) : Bool := (x.fId.toList == y.fId.toList) && ((x.fDays == y.fDays) && ((x.fFirst == y.fFirst) && (x.fLast == y.fLast)))
theorem DWork.eqv_iff (x y : DWork) : x.eqv y = true ↔ x = y := by
  constructor
  · intro h
    simp only [DWork.eqv, Bool.and_eq_true, beq_iff_eq] at h
    obtain ⟨e0, e1, e2, e3⟩ := h
    cases x; cases y
    simp only [DWork.mk.injEq]
    exact ⟨ba_ext (by simpa [ByteArray.toList_eq] using e0), e1, e2, e3⟩
  · rintro rfl
    simp [DWork.eqv]

theorem run_eql_Work (x y : DWork) (w : World) : (binOp .eql 54 (.agg #[.string x.fId, .int .i64 x.fDays, .int .i64 x.fFirst, .int .i64 x.fLast]) (.agg #[.string y.fId, .int .i64 y.fDays, .int .i64 y.fFirst, .int .i64 y.fLast])).run Tryd.prog w = .ok (.bool (x.eqv y)) w := by
  have hS : Tryd.prog.underlying 54 = some (.struct (Tryd.prog.fieldsOf 54)) := by kernel_rfl
  have hp : Tryd.prog.stoodInHeld 54 = false := by kernel_rfl
  rw [run_eql_struct, show (10000 : Nat) = 9999 + 1 from rfl, run_equalIn_agg w 9999 54 _ _ hS hp]
  simp only [Program.fieldsOf, Tryd.underlying54]
  go_simp
  unfold DWork.eqv
  rcases h0 : (x.fId.toList == y.fId.toList) with _ | _ <;> rcases h1 : (x.fDays == y.fDays) with _ | _ <;> rcases h2 : (x.fFirst == y.fFirst) with _ | _ <;> rcases h3 : (x.fLast == y.fLast) with _ | _ <;> simp_all
theorem run_neq_Work (x y : DWork) (w : World) : (binOp .neq 54 (.agg #[.string x.fId, .int .i64 x.fDays, .int .i64 x.fFirst, .int .i64 x.fLast]) (.agg #[.string y.fId, .int .i64 y.fDays, .int .i64 y.fFirst, .int .i64 y.fLast])).run Tryd.prog w = .ok (.bool (!x.eqv y)) w := by
  have hS : Tryd.prog.underlying 54 = some (.struct (Tryd.prog.fieldsOf 54)) := by kernel_rfl
  have hp : Tryd.prog.stoodInHeld 54 = false := by kernel_rfl
  rw [run_neq_struct, show (10000 : Nat) = 9999 + 1 from rfl, run_equalIn_agg w 9999 54 _ _ hS hp]
  simp only [Program.fieldsOf, Tryd.underlying54]
  go_simp
  unfold DWork.eqv
  rcases h0 : (x.fId.toList == y.fId.toList) with _ | _ <;> rcases h1 : (x.fDays == y.fDays) with _ | _ <;> rcases h2 : (x.fFirst == y.fFirst) with _ | _ <;> rcases h3 : (x.fLast == y.fLast) with _ | _ <;> simp_all

set_option maxHeartbeats 400000 in
theorem l_eqWork (x : DWork) (w : World) :
    Calls Tryd.prog 35 #[.agg #[.string x.fId, .int .i64 x.fDays, .int .i64 x.fFirst, .int .i64 x.fLast], .agg #[.string x.fId, .int .i64 x.fDays, .int .i64 x.fFirst, .int .i64 x.fLast]] w (RetB true w) := by
  go_enter Tryd.func35, Tryd.ntmps35
  go_wp2
  go_ret
  exact ⟨rfl, by (repeat (first | exact Below.refl _ _ | assumption | refine Below.drew ?_ | refine Below.alloc ?_ (by first | omega | (simp; done) | (simp; omega) | exact Below.size (by assumption)) _ | refine Below.setCell ?_ (by first | omega | (simp; done) | (simp; omega)) _))⟩

def mark1Work (m : Nat) : DWork := ⟨mt (m + 0), ((m + 1 : Nat) : Int), ((m + 2 : Nat) : Int), ((m + 3 : Nat) : Int)⟩
def markLWork (n k : Nat) : List DWork := (List.range n).map fun i => mark1Work (k + 4 * i)
theorem markLWork_get (n k i : Nat) (h : i < n) : (markLWork n k)[i]? = some (mark1Work (k + 4 * i)) := by simp [markLWork, h]
theorem markLWork_len (n k : Nat) : (markLWork n k).length = n := by simp [markLWork]

end Go.Proofs.YtdpgnlclcakhkaaDoor

