/- Paper: how one lies, and the law files' helpers on it. -/
import Derived.Test.YtdpgnlclcakhkaaDoorRows
import Derived.Test.YtdpgnlclcakhkaaDoorMem
import Derived.Test.YtdpgnlclcakhkaaDoorLaw
import Derived.Test.YtdpgnlclcakhkaaDoorConvS
import Derived.Test.YtdpgnlclcakhkaaDoorMarks
import Derived.StillTailTactics
import Derived.Laws.StructEq
namespace Go.Proofs.YtdpgnlclcakhkaaDoor
set_option linter.unusedVariables false
set_option linter.unusedSimpArgs false
set_option linter.unusedSectionVars false
open Go.RowKit

structure DPaper where
  fId : ByteArray
  fMaker : ByteArray
  fEarly : Int
  fLate : Int
  fTrust : Int
def paperE : Enc DPaper := ⟨5, fun x => [.string x.fId, .string x.fMaker, .int .i64 x.fEarly, .int .i64 x.fLate, .int .i64 x.fTrust], fun _ => rfl, by decide, fun _ u h => by simp at h; rcases h with rfl | rfl | rfl | rfl | rfl <;> rfl⟩
def DPaper.val (x : DPaper) : Value := .agg #[.string x.fId, .string x.fMaker, .int .i64 x.fEarly, .int .i64 x.fLate, .int .i64 x.fTrust]
def DPaper.good (x : DPaper) : Prop := x.fId.size ≤ maxLen ∧ x.fMaker.size ≤ maxLen ∧ (-9223372036854775808 ≤ x.fEarly ∧ x.fEarly ≤ 9223372036854775807) ∧ (-9223372036854775808 ≤ x.fLate ∧ x.fLate ≤ 9223372036854775807) ∧ (-9223372036854775808 ≤ x.fTrust ∧ x.fTrust ≤ 9223372036854775807)
def DPaper.sz (x : DPaper) : Int := x.fId.size + x.fMaker.size
def sumPaper : List DPaper → Int
  | [] => 0
  | x :: r => x.sz + sumPaper r
theorem DPaper.sz_nonneg (x : DPaper) : 0 ≤ x.sz := by unfold DPaper.sz; omega
theorem sumPaper_nonneg (l : List DPaper) : 0 ≤ sumPaper l := by
  induction l with
  | nil => simp [sumPaper]
  | cons s r ih => have := s.sz_nonneg; simp only [sumPaper]; omega
theorem sumPaper_mem {l : List DPaper} {x : DPaper} (h : x ∈ l) : x.sz ≤ sumPaper l := by
  induction l with
  | nil => cases h
  | cons y r ih =>
    have h0 := sumPaper_nonneg r
    have h1 := y.sz_nonneg
    simp only [sumPaper]
    cases List.mem_cons.1 h with
    | inl e => subst e; omega
    | inr e => have := ih e; omega


/-- whether two are the same, field by field -/
def DPaper.eqv (x y : DPaper) : Bool := (x.fId.toList == y.fId.toList) && ((x.fMaker.toList == y.fMaker.toList) && ((x.fEarly == y.fEarly) && ((x.fLate == y.fLate) && (x.fTrust == y.fTrust))))
theorem DPaper.eqv_iff (x y : DPaper) : x.eqv y = true ↔ x = y := by
  constructor
  · intro h
    simp only [DPaper.eqv, Bool.and_eq_true, beq_iff_eq] at h
    obtain ⟨e0, e1, e2, e3, e4⟩ := h
    cases x; cases y
    simp only [DPaper.mk.injEq]
    exact ⟨ba_ext (by simpa [ByteArray.toList_eq] using e0), ba_ext (by simpa [ByteArray.toList_eq] using e1), e2, e3, e4⟩
  · rintro rfl
    simp [DPaper.eqv]

theorem run_eql_Paper (x y : DPaper) (w : World) : (binOp .eql 64 (.agg #[.string x.fId, .string x.fMaker, .int .i64 x.fEarly, .int .i64 x.fLate, .int .i64 x.fTrust]) (.agg #[.string y.fId, .string y.fMaker, .int .i64 y.fEarly, .int .i64 y.fLate, .int .i64 y.fTrust])).run Tryd.prog w = .ok (.bool (x.eqv y)) w := by
  have hS : Tryd.prog.underlying 64 = some (.struct (Tryd.prog.fieldsOf 64)) := by kernel_rfl
  have hp : Tryd.prog.stoodInHeld 64 = false := by kernel_rfl
  rw [run_eql_struct, show (10000 : Nat) = 9999 + 1 from rfl, run_equalIn_agg w 9999 64 _ _ hS hp]
  simp only [Program.fieldsOf, Tryd.underlying64]
  go_simp
  unfold DPaper.eqv
  rcases h0 : (x.fId.toList == y.fId.toList) with _ | _ <;> rcases h1 : (x.fMaker.toList == y.fMaker.toList) with _ | _ <;> rcases h2 : (x.fEarly == y.fEarly) with _ | _ <;> rcases h3 : (x.fLate == y.fLate) with _ | _ <;> rcases h4 : (x.fTrust == y.fTrust) with _ | _ <;> simp_all
theorem run_neq_Paper (x y : DPaper) (w : World) : (binOp .neq 64 (.agg #[.string x.fId, .string x.fMaker, .int .i64 x.fEarly, .int .i64 x.fLate, .int .i64 x.fTrust]) (.agg #[.string y.fId, .string y.fMaker, .int .i64 y.fEarly, .int .i64 y.fLate, .int .i64 y.fTrust])).run Tryd.prog w = .ok (.bool (!x.eqv y)) w := by
  have hS : Tryd.prog.underlying 64 = some (.struct (Tryd.prog.fieldsOf 64)) := by kernel_rfl
  have hp : Tryd.prog.stoodInHeld 64 = false := by kernel_rfl
  rw [run_neq_struct, show (10000 : Nat) = 9999 + 1 from rfl, run_equalIn_agg w 9999 64 _ _ hS hp]
  simp only [Program.fieldsOf, Tryd.underlying64]
  go_simp
  unfold DPaper.eqv
  rcases h0 : (x.fId.toList == y.fId.toList) with _ | _ <;> rcases h1 : (x.fMaker.toList == y.fMaker.toList) with _ | _ <;> rcases h2 : (x.fEarly == y.fEarly) with _ | _ <;> rcases h3 : (x.fLate == y.fLate) with _ | _ <;> rcases h4 : (x.fTrust == y.fTrust) with _ | _ <;> simp_all

set_option maxHeartbeats 400000 in
theorem l_eqPaper (x : DPaper) (w : World) :
    Calls Tryd.prog 41 #[.agg #[.string x.fId, .string x.fMaker, .int .i64 x.fEarly, .int .i64 x.fLate, .int .i64 x.fTrust], .agg #[.string x.fId, .string x.fMaker, .int .i64 x.fEarly, .int .i64 x.fLate, .int .i64 x.fTrust]] w (RetB true w) := by
  go_enter Tryd.func41, Tryd.ntmps41
  go_wp2
  go_ret
  exact ⟨rfl, by (repeat (first | exact Below.refl _ _ | assumption | refine Below.drew ?_ | refine Below.alloc ?_ (by first | omega | (simp; done) | (simp; omega) | exact Below.size (by assumption)) _ | refine Below.setCell ?_ (by first | omega | (simp; done) | (simp; omega)) _))⟩

def mark1Paper (m : Nat) : DPaper := ⟨mt (m + 0), mt (m + 1), ((m + 2 : Nat) : Int), ((m + 3 : Nat) : Int), ((m + 4 : Nat) : Int)⟩
def markLPaper (n k : Nat) : List DPaper := (List.range n).map fun i => mark1Paper (k + 5 * i)
theorem markLPaper_get (n k i : Nat) (h : i < n) : (markLPaper n k)[i]? = some (mark1Paper (k + 5 * i)) := by simp [markLPaper, h]
theorem markLPaper_len (n k : Nat) : (markLPaper n k).length = n := by simp [markLPaper]

end Go.Proofs.YtdpgnlclcakhkaaDoor

