/- Good: how one lies, and the law files' helpers on it. -/
import Derived.Test.YtfogginmdglagaaGreatDoorRows
import Derived.Test.YtfogginmdglagaaGreatDoorMem
import Derived.Test.YtfogginmdglagaaGreatDoorLaw
import Derived.Test.YtfogginmdglagaaGreatDoorConvS
import Derived.Test.YtfogginmdglagaaGreatDoorMarks
import Derived.StillTailTactics
import Derived.Laws.StructEq
namespace Go.Proofs.YtfogginmdglagaaGreatDoor
set_option linter.unusedVariables false
set_option linter.unusedSimpArgs false
set_option linter.unusedSectionVars false
open Go.RowKit

structure DGood where
  fId : ByteArray
  fCount : Int
  fLeast : Int
  fPrice : Int
def goodE : Enc DGood := ⟨4, fun x => [.string x.fId, .int .i64 x.fCount, .int .i64 x.fLeast, .int .i64 x.fPrice], fun _ => rfl, by decide, fun _ u h => by simp at h; rcases h with rfl | rfl | rfl | rfl <;> rfl⟩
def DGood.val (x : DGood) : Value := .agg #[.string x.fId, .int .i64 x.fCount, .int .i64 x.fLeast, .int .i64 x.fPrice]
def DGood.good (x : DGood) : Prop := x.fId.size ≤ maxLen ∧ (-9223372036854775808 ≤ x.fCount ∧ x.fCount ≤ 9223372036854775807) ∧ (-9223372036854775808 ≤ x.fLeast ∧ x.fLeast ≤ 9223372036854775807) ∧ (-9223372036854775808 ≤ x.fPrice ∧ x.fPrice ≤ 9223372036854775807)
def DGood.sz (x : DGood) : Int := x.fId.size
def sumGood : List DGood → Int
  | [] => 0
  | x :: r => x.sz + sumGood r
theorem DGood.sz_nonneg (x : DGood) : 0 ≤ x.sz := by unfold DGood.sz; omega
theorem sumGood_nonneg (l : List DGood) : 0 ≤ sumGood l := by
  induction l with
  | nil => simp [sumGood]
  | cons s r ih => have := s.sz_nonneg; simp only [sumGood]; omega
theorem sumGood_mem {l : List DGood} {x : DGood} (h : x ∈ l) : x.sz ≤ sumGood l := by
  induction l with
  | nil => cases h
  | cons y r ih =>
    have h0 := sumGood_nonneg r
    have h1 := y.sz_nonneg
    simp only [sumGood]
    cases List.mem_cons.1 h with
    | inl e => subst e; omega
    | inr e => have := ih e; omega


/-- whether two are the same, field by field -/
def DGood.eqv (x y : DGood) : Bool := (x.fId.toList == y.fId.toList) && ((x.fCount == y.fCount) && ((x.fLeast == y.fLeast) && (x.fPrice == y.fPrice)))
theorem DGood.eqv_iff (x y : DGood) : x.eqv y = true ↔ x = y := by
  constructor
  · intro h
    simp only [DGood.eqv, Bool.and_eq_true, beq_iff_eq] at h
    obtain ⟨e0, e1, e2, e3⟩ := h
    cases x; cases y
    simp only [DGood.mk.injEq]
    exact ⟨ba_ext (by simpa [ByteArray.toList_eq] using e0), e1, e2, e3⟩
  · rintro rfl
    simp [DGood.eqv]

theorem run_eql_Good (x y : DGood) (w : World) : (binOp .eql 27 (.agg #[.string x.fId, .int .i64 x.fCount, .int .i64 x.fLeast, .int .i64 x.fPrice]) (.agg #[.string y.fId, .int .i64 y.fCount, .int .i64 y.fLeast, .int .i64 y.fPrice])).run Tryz.prog w = .ok (.bool (x.eqv y)) w := by
  have hS : Tryz.prog.underlying 27 = some (.struct (Tryz.prog.fieldsOf 27)) := by kernel_rfl
  have hp : Tryz.prog.stoodInHeld 27 = false := by kernel_rfl
  rw [run_eql_struct, show (10000 : Nat) = 9999 + 1 from rfl, run_equalIn_agg w 9999 27 _ _ hS hp]
  simp only [Program.fieldsOf, Tryz.underlying27]
  go_simp
  unfold DGood.eqv
  rcases h0 : (x.fId.toList == y.fId.toList) with _ | _ <;> rcases h1 : (x.fCount == y.fCount) with _ | _ <;> rcases h2 : (x.fLeast == y.fLeast) with _ | _ <;> rcases h3 : (x.fPrice == y.fPrice) with _ | _ <;> simp_all
theorem run_neq_Good (x y : DGood) (w : World) : (binOp .neq 27 (.agg #[.string x.fId, .int .i64 x.fCount, .int .i64 x.fLeast, .int .i64 x.fPrice]) (.agg #[.string y.fId, .int .i64 y.fCount, .int .i64 y.fLeast, .int .i64 y.fPrice])).run Tryz.prog w = .ok (.bool (!x.eqv y)) w := by
  have hS : Tryz.prog.underlying 27 = some (.struct (Tryz.prog.fieldsOf 27)) := by kernel_rfl
  have hp : Tryz.prog.stoodInHeld 27 = false := by kernel_rfl
  rw [run_neq_struct, show (10000 : Nat) = 9999 + 1 from rfl, run_equalIn_agg w 9999 27 _ _ hS hp]
  simp only [Program.fieldsOf, Tryz.underlying27]
  go_simp
  unfold DGood.eqv
  rcases h0 : (x.fId.toList == y.fId.toList) with _ | _ <;> rcases h1 : (x.fCount == y.fCount) with _ | _ <;> rcases h2 : (x.fLeast == y.fLeast) with _ | _ <;> rcases h3 : (x.fPrice == y.fPrice) with _ | _ <;> simp_all

def mark1Good (m : Nat) : DGood := ⟨mt (m + 0), ((m + 1 : Nat) : Int), ((m + 2 : Nat) : Int), ((m + 3 : Nat) : Int)⟩
def markLGood (n k : Nat) : List DGood := (List.range n).map fun i => mark1Good (k + 4 * i)
theorem markLGood_get (n k i : Nat) (h : i < n) : (markLGood n k)[i]? = some (mark1Good (k + 4 * i)) := by simp [markLGood, h]
theorem markLGood_len (n k : Nat) : (markLGood n k).length = n := by simp [markLGood]

end Go.Proofs.YtfogginmdglagaaGreatDoor

