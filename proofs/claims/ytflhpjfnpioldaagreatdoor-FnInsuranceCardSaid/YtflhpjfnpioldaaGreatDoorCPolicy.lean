/- Policy: how one lies, and the law files' helpers on it. -/
import Derived.Test.YtflhpjfnpioldaaGreatDoorRows
import Derived.Test.YtflhpjfnpioldaaGreatDoorMem
import Derived.Test.YtflhpjfnpioldaaGreatDoorLaw
import Derived.Test.YtflhpjfnpioldaaGreatDoorConvS
import Derived.Test.YtflhpjfnpioldaaGreatDoorMarks
import Derived.StillTailTactics
import Derived.Laws.StructEq
namespace Go.Proofs.YtflhpjfnpioldaaGreatDoor
set_option linter.unusedVariables false
set_option linter.unusedSimpArgs false
set_option linter.unusedSectionVars false
open Go.RowKit

structure DPolicy where
  fId : ByteArray
  fPremium : Int
  fShare : Int
  fExcess : Int
  fMost : Int
def policyE : Enc DPolicy := ⟨5, fun x => [.string x.fId, .int .i64 x.fPremium, .int .i64 x.fShare, .int .i64 x.fExcess, .int .i64 x.fMost], fun _ => rfl, by decide, fun _ u h => by simp at h; rcases h with rfl | rfl | rfl | rfl | rfl <;> rfl⟩
def DPolicy.val (x : DPolicy) : Value := .agg #[.string x.fId, .int .i64 x.fPremium, .int .i64 x.fShare, .int .i64 x.fExcess, .int .i64 x.fMost]
def DPolicy.good (x : DPolicy) : Prop := x.fId.size ≤ maxLen ∧ (-9223372036854775808 ≤ x.fPremium ∧ x.fPremium ≤ 9223372036854775807) ∧ (-9223372036854775808 ≤ x.fShare ∧ x.fShare ≤ 9223372036854775807) ∧ (-9223372036854775808 ≤ x.fExcess ∧ x.fExcess ≤ 9223372036854775807) ∧ (-9223372036854775808 ≤ x.fMost ∧ x.fMost ≤ 9223372036854775807)
def DPolicy.sz (x : DPolicy) : Int := x.fId.size
def sumPolicy : List DPolicy → Int
  | [] => 0
  | x :: r => x.sz + sumPolicy r
theorem DPolicy.sz_nonneg (x : DPolicy) : 0 ≤ x.sz := by unfold DPolicy.sz; omega
theorem sumPolicy_nonneg (l : List DPolicy) : 0 ≤ sumPolicy l := by
  induction l with
  | nil => simp [sumPolicy]
  | cons s r ih => have := s.sz_nonneg; simp only [sumPolicy]; omega
theorem sumPolicy_mem {l : List DPolicy} {x : DPolicy} (h : x ∈ l) : x.sz ≤ sumPolicy l := by
  induction l with
  | nil => cases h
  | cons y r ih =>
    have h0 := sumPolicy_nonneg r
    have h1 := y.sz_nonneg
    simp only [sumPolicy]
    cases List.mem_cons.1 h with
    | inl e => subst e; omega
    | inr e => have := ih e; omega


/-- whether two are the same, field by field -/
def DPolicy.eqv (x y : DPolicy) : Bool := (x.fId.toList == y.fId.toList) && ((x.fPremium == y.fPremium) && ((x.fShare == y.fShare) && ((x.fExcess == y.fExcess) && (x.fMost == y.fMost))))
theorem DPolicy.eqv_iff (x y : DPolicy) : x.eqv y = true ↔ x = y := by
  constructor
  · intro h
    simp only [DPolicy.eqv, Bool.and_eq_true, beq_iff_eq] at h
    obtain ⟨e0, e1, e2, e3, e4⟩ := h
    cases x; cases y
    simp only [DPolicy.mk.injEq]
    exact ⟨ba_ext (by simpa [ByteArray.toList_eq] using e0), e1, e2, e3, e4⟩
  · rintro rfl
    simp [DPolicy.eqv]

theorem run_eql_Policy (x y : DPolicy) (w : World) : (binOp .eql 35 (.agg #[.string x.fId, .int .i64 x.fPremium, .int .i64 x.fShare, .int .i64 x.fExcess, .int .i64 x.fMost]) (.agg #[.string y.fId, .int .i64 y.fPremium, .int .i64 y.fShare, .int .i64 y.fExcess, .int .i64 y.fMost])).run Tryz.prog w = .ok (.bool (x.eqv y)) w := by
  have hS : Tryz.prog.underlying 35 = some (.struct (Tryz.prog.fieldsOf 35)) := by kernel_rfl
  have hp : Tryz.prog.stoodInHeld 35 = false := by kernel_rfl
  rw [run_eql_struct, show (10000 : Nat) = 9999 + 1 from rfl, run_equalIn_agg w 9999 35 _ _ hS hp]
  simp only [Program.fieldsOf, Tryz.underlying35]
  go_simp
  unfold DPolicy.eqv
  rcases h0 : (x.fId.toList == y.fId.toList) with _ | _ <;> rcases h1 : (x.fPremium == y.fPremium) with _ | _ <;> rcases h2 : (x.fShare == y.fShare) with _ | _ <;> rcases h3 : (x.fExcess == y.fExcess) with _ | _ <;> rcases h4 : (x.fMost == y.fMost) with _ | _ <;> simp_all
theorem run_neq_Policy (x y : DPolicy) (w : World) : (binOp .neq 35 (.agg #[.string x.fId, .int .i64 x.fPremium, .int .i64 x.fShare, .int .i64 x.fExcess, .int .i64 x.fMost]) (.agg #[.string y.fId, .int .i64 y.fPremium, .int .i64 y.fShare, .int .i64 y.fExcess, .int .i64 y.fMost])).run Tryz.prog w = .ok (.bool (!x.eqv y)) w := by
  have hS : Tryz.prog.underlying 35 = some (.struct (Tryz.prog.fieldsOf 35)) := by kernel_rfl
  have hp : Tryz.prog.stoodInHeld 35 = false := by kernel_rfl
  rw [run_neq_struct, show (10000 : Nat) = 9999 + 1 from rfl, run_equalIn_agg w 9999 35 _ _ hS hp]
  simp only [Program.fieldsOf, Tryz.underlying35]
  go_simp
  unfold DPolicy.eqv
  rcases h0 : (x.fId.toList == y.fId.toList) with _ | _ <;> rcases h1 : (x.fPremium == y.fPremium) with _ | _ <;> rcases h2 : (x.fShare == y.fShare) with _ | _ <;> rcases h3 : (x.fExcess == y.fExcess) with _ | _ <;> rcases h4 : (x.fMost == y.fMost) with _ | _ <;> simp_all

def mark1Policy (m : Nat) : DPolicy := ⟨mt (m + 0), ((m + 1 : Nat) : Int), ((m + 2 : Nat) : Int), ((m + 3 : Nat) : Int), ((m + 4 : Nat) : Int)⟩
def markLPolicy (n k : Nat) : List DPolicy := (List.range n).map fun i => mark1Policy (k + 5 * i)
theorem markLPolicy_get (n k i : Nat) (h : i < n) : (markLPolicy n k)[i]? = some (mark1Policy (k + 5 * i)) := by simp [markLPolicy, h]
theorem markLPolicy_len (n k : Nat) : (markLPolicy n k).length = n := by simp [markLPolicy]

end Go.Proofs.YtflhpjfnpioldaaGreatDoor

