/- Pot: how one lies, and the law files' helpers on it. -/
import Derived.Test.YtdpgnlclcakhkaaDoorRows
import Derived.Test.YtdpgnlclcakhkaaDoorMem
import Derived.Test.YtdpgnlclcakhkaaDoorLaw
import Derived.Test.YtdpgnlclcakhkaaDoorConvS
import Derived.Test.YtdpgnlclcakhkaaDoorMarks
import Derived.StillTailTactics
import Derived.Laws.StructEq
namespace Go.Proofs.YtdpgnlclcakhkaaDoor
set_option linter.unusedVariables false
set_option linter.unusedSimpArgs false
set_option linter.unusedSectionVars false
open Go.RowKit

structure DPot where
  fId : ByteArray
  fDry : Int
  fWater : Int
  fHeat : Int
  fHours : Int
def potE : Enc DPot := ⟨5, fun x => [.string x.fId, .int .i64 x.fDry, .int .i64 x.fWater, .int .i64 x.fHeat, .int .i64 x.fHours], fun _ => rfl, by decide, fun _ u h => by simp at h; rcases h with rfl | rfl | rfl | rfl | rfl <;> rfl⟩
def DPot.val (x : DPot) : Value := .agg #[.string x.fId, .int .i64 x.fDry, .int .i64 x.fWater, .int .i64 x.fHeat, .int .i64 x.fHours]
def DPot.good (x : DPot) : Prop := x.fId.size ≤ maxLen ∧ (-9223372036854775808 ≤ x.fDry ∧ x.fDry ≤ 9223372036854775807) ∧ (-9223372036854775808 ≤ x.fWater ∧ x.fWater ≤ 9223372036854775807) ∧ (-9223372036854775808 ≤ x.fHeat ∧ x.fHeat ≤ 9223372036854775807) ∧ (-9223372036854775808 ≤ x.fHours ∧ x.fHours ≤ 9223372036854775807)
def DPot.sz (x : DPot) : Int := x.fId.size
def sumPot : List DPot → Int
  | [] => 0
  | x :: r => x.sz + sumPot r
theorem DPot.sz_nonneg (x : DPot) : 0 ≤ x.sz := by unfold DPot.sz; omega
theorem sumPot_nonneg (l : List DPot) : 0 ≤ sumPot l := by
  induction l with
  | nil => simp [sumPot]
  | cons s r ih => have := s.sz_nonneg; simp only [sumPot]; omega
theorem sumPot_mem {l : List DPot} {x : DPot} (h : x ∈ l) : x.sz ≤ sumPot l := by
  induction l with
  | nil => cases h
  | cons y r ih =>
    have h0 := sumPot_nonneg r
    have h1 := y.sz_nonneg
    simp only [sumPot]
    cases List.mem_cons.1 h with
    | inl e => subst e; omega
    | inr e => have := ih e; omega


/-- whether two are the same, field by field -/
def DPot.eqv (x y : DPot) : Bool := (x.fId.toList == y.fId.toList) && ((x.fDry == y.fDry) && ((x.fWater == y.fWater) && ((x.fHeat == y.fHeat) && (x.fHours == y.fHours))))
theorem DPot.eqv_iff (x y : DPot) : x.eqv y = true ↔ x = y := by
  constructor
  · intro h
    simp only [DPot.eqv, Bool.and_eq_true, beq_iff_eq] at h
    obtain ⟨e0, e1, e2, e3, e4⟩ := h
    cases x; cases y
    simp only [DPot.mk.injEq]
    exact ⟨ba_ext (by simpa [ByteArray.toList_eq] using e0), e1, e2, e3, e4⟩
  · rintro rfl
    simp [DPot.eqv]

theorem run_eql_Pot (x y : DPot) (w : World) : (binOp .eql 59 (.agg #[.string x.fId, .int .i64 x.fDry, .int .i64 x.fWater, .int .i64 x.fHeat, .int .i64 x.fHours]) (.agg #[.string y.fId, .int .i64 y.fDry, .int .i64 y.fWater, .int .i64 y.fHeat, .int .i64 y.fHours])).run Tryd.prog w = .ok (.bool (x.eqv y)) w := by
  have hS : Tryd.prog.underlying 59 = some (.struct (Tryd.prog.fieldsOf 59)) := by kernel_rfl
  have hp : Tryd.prog.stoodInHeld 59 = false := by kernel_rfl
  rw [run_eql_struct, show (10000 : Nat) = 9999 + 1 from rfl, run_equalIn_agg w 9999 59 _ _ hS hp]
  simp only [Program.fieldsOf, Tryd.underlying59]
  go_simp
  unfold DPot.eqv
  rcases h0 : (x.fId.toList == y.fId.toList) with _ | _ <;> rcases h1 : (x.fDry == y.fDry) with _ | _ <;> rcases h2 : (x.fWater == y.fWater) with _ | _ <;> rcases h3 : (x.fHeat == y.fHeat) with _ | _ <;> rcases h4 : (x.fHours == y.fHours) with _ | _ <;> simp_all
theorem run_neq_Pot (x y : DPot) (w : World) : (binOp .neq 59 (.agg #[.string x.fId, .int .i64 x.fDry, .int .i64 x.fWater, .int .i64 x.fHeat, .int .i64 x.fHours]) (.agg #[.string y.fId, .int .i64 y.fDry, .int .i64 y.fWater, .int .i64 y.fHeat, .int .i64 y.fHours])).run Tryd.prog w = .ok (.bool (!x.eqv y)) w := by
  have hS : Tryd.prog.underlying 59 = some (.struct (Tryd.prog.fieldsOf 59)) := by kernel_rfl
  have hp : Tryd.prog.stoodInHeld 59 = false := by kernel_rfl
  rw [run_neq_struct, show (10000 : Nat) = 9999 + 1 from rfl, run_equalIn_agg w 9999 59 _ _ hS hp]
  simp only [Program.fieldsOf, Tryd.underlying59]
  go_simp
  unfold DPot.eqv
  rcases h0 : (x.fId.toList == y.fId.toList) with _ | _ <;> rcases h1 : (x.fDry == y.fDry) with _ | _ <;> rcases h2 : (x.fWater == y.fWater) with _ | _ <;> rcases h3 : (x.fHeat == y.fHeat) with _ | _ <;> rcases h4 : (x.fHours == y.fHours) with _ | _ <;> simp_all

set_option maxHeartbeats 400000 in
theorem l_eqPot (x : DPot) (w : World) :
    Calls Tryd.prog 38 #[.agg #[.string x.fId, .int .i64 x.fDry, .int .i64 x.fWater, .int .i64 x.fHeat, .int .i64 x.fHours], .agg #[.string x.fId, .int .i64 x.fDry, .int .i64 x.fWater, .int .i64 x.fHeat, .int .i64 x.fHours]] w (RetB true w) := by
  go_enter Tryd.func38, Tryd.ntmps38
  go_wp2
  go_ret
  exact ⟨rfl, by (repeat (first | exact Below.refl _ _ | assumption | refine Below.drew ?_ | refine Below.alloc ?_ (by first | omega | (simp; done) | (simp; omega) | exact Below.size (by assumption)) _ | refine Below.setCell ?_ (by first | omega | (simp; done) | (simp; omega)) _))⟩

def mark1Pot (m : Nat) : DPot := ⟨mt (m + 0), ((m + 1 : Nat) : Int), ((m + 2 : Nat) : Int), ((m + 3 : Nat) : Int), ((m + 4 : Nat) : Int)⟩
def markLPot (n k : Nat) : List DPot := (List.range n).map fun i => mark1Pot (k + 5 * i)
theorem markLPot_get (n k i : Nat) (h : i < n) : (markLPot n k)[i]? = some (mark1Pot (k + 5 * i)) := by simp [markLPot, h]
theorem markLPot_len (n k : Nat) : (markLPot n k).length = n := by simp [markLPot]

end Go.Proofs.YtdpgnlclcakhkaaDoor

