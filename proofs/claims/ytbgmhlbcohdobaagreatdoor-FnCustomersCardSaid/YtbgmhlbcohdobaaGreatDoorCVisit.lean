/- Visit: how one lies, and the law files' helpers on it. -/
import Derived.Test.YtbgmhlbcohdobaaGreatDoorRows
import Derived.Test.YtbgmhlbcohdobaaGreatDoorMem
import Derived.Test.YtbgmhlbcohdobaaGreatDoorLaw
import Derived.Test.YtbgmhlbcohdobaaGreatDoorConvS
import Derived.Test.YtbgmhlbcohdobaaGreatDoorMarks
import Derived.StillTailTactics
import Derived.Laws.StructEq
namespace Go.Proofs.YtbgmhlbcohdobaaGreatDoor
set_option linter.unusedVariables false
set_option linter.unusedSimpArgs false
set_option linter.unusedSectionVars false
open Go.RowKit

structure DVisit where
  fDay : Int
  fWho : ByteArray
  fKind : Int
  fAmount : Int
def visitE : Enc DVisit := ⟨4, fun x => [.int .i64 x.fDay, .string x.fWho, .int .i64 x.fKind, .int .i64 x.fAmount], fun _ => rfl, by decide, fun _ u h => by simp at h; rcases h with rfl | rfl | rfl | rfl <;> rfl⟩
def DVisit.val (x : DVisit) : Value := .agg #[.int .i64 x.fDay, .string x.fWho, .int .i64 x.fKind, .int .i64 x.fAmount]
def DVisit.good (x : DVisit) : Prop := (-9223372036854775808 ≤ x.fDay ∧ x.fDay ≤ 9223372036854775807) ∧ x.fWho.size ≤ maxLen ∧ (-9223372036854775808 ≤ x.fKind ∧ x.fKind ≤ 9223372036854775807) ∧ (-9223372036854775808 ≤ x.fAmount ∧ x.fAmount ≤ 9223372036854775807)
def DVisit.sz (x : DVisit) : Int := x.fWho.size
def sumVisit : List DVisit → Int
  | [] => 0
  | x :: r => x.sz + sumVisit r
theorem DVisit.sz_nonneg (x : DVisit) : 0 ≤ x.sz := by unfold DVisit.sz; omega
theorem sumVisit_nonneg (l : List DVisit) : 0 ≤ sumVisit l := by
  induction l with
  | nil => simp [sumVisit]
  | cons s r ih => have := s.sz_nonneg; simp only [sumVisit]; omega
theorem sumVisit_mem {l : List DVisit} {x : DVisit} (h : x ∈ l) : x.sz ≤ sumVisit l := by
  induction l with
  | nil => cases h
  | cons y r ih =>
    have h0 := sumVisit_nonneg r
    have h1 := y.sz_nonneg
    simp only [sumVisit]
    cases List.mem_cons.1 h with
    | inl e => subst e; omega
    | inr e => have := ih e; omega


/-- whether two are the same, field by field -/
def DVisit.eqv (x y : DVisit) : Bool := (x.fDay == y.fDay) && ((x.fWho.toList == y.fWho.toList) && ((x.fKind == y.fKind) && (x.fAmount == y.fAmount)))
theorem DVisit.eqv_iff (x y : DVisit) : x.eqv y = true ↔ x = y := by
  constructor
  · intro h
    simp only [DVisit.eqv, Bool.and_eq_true, beq_iff_eq] at h
    obtain ⟨e0, e1, e2, e3⟩ := h
    cases x; cases y
    simp only [DVisit.mk.injEq]
    exact ⟨e0, ba_ext (by simpa [ByteArray.toList_eq] using e1), e2, e3⟩
  · rintro rfl
    simp [DVisit.eqv]

theorem run_eql_Visit (x y : DVisit) (w : World) : (binOp .eql 35 (.agg #[.int .i64 x.fDay, .string x.fWho, .int .i64 x.fKind, .int .i64 x.fAmount]) (.agg #[.int .i64 y.fDay, .string y.fWho, .int .i64 y.fKind, .int .i64 y.fAmount])).run Tryz.prog w = .ok (.bool (x.eqv y)) w := by
  have hS : Tryz.prog.underlying 35 = some (.struct (Tryz.prog.fieldsOf 35)) := by kernel_rfl
  have hp : Tryz.prog.stoodInHeld 35 = false := by kernel_rfl
  rw [run_eql_struct, show (10000 : Nat) = 9999 + 1 from rfl, run_equalIn_agg w 9999 35 _ _ hS hp]
  simp only [Program.fieldsOf, Tryz.underlying35]
  go_simp
  unfold DVisit.eqv
  rcases h0 : (x.fDay == y.fDay) with _ | _ <;> rcases h1 : (x.fWho.toList == y.fWho.toList) with _ | _ <;> rcases h2 : (x.fKind == y.fKind) with _ | _ <;> rcases h3 : (x.fAmount == y.fAmount) with _ | _ <;> simp_all
theorem run_neq_Visit (x y : DVisit) (w : World) : (binOp .neq 35 (.agg #[.int .i64 x.fDay, .string x.fWho, .int .i64 x.fKind, .int .i64 x.fAmount]) (.agg #[.int .i64 y.fDay, .string y.fWho, .int .i64 y.fKind, .int .i64 y.fAmount])).run Tryz.prog w = .ok (.bool (!x.eqv y)) w := by
  have hS : Tryz.prog.underlying 35 = some (.struct (Tryz.prog.fieldsOf 35)) := by kernel_rfl
  have hp : Tryz.prog.stoodInHeld 35 = false := by kernel_rfl
  rw [run_neq_struct, show (10000 : Nat) = 9999 + 1 from rfl, run_equalIn_agg w 9999 35 _ _ hS hp]
  simp only [Program.fieldsOf, Tryz.underlying35]
  go_simp
  unfold DVisit.eqv
  rcases h0 : (x.fDay == y.fDay) with _ | _ <;> rcases h1 : (x.fWho.toList == y.fWho.toList) with _ | _ <;> rcases h2 : (x.fKind == y.fKind) with _ | _ <;> rcases h3 : (x.fAmount == y.fAmount) with _ | _ <;> simp_all

def mark1Visit (m : Nat) : DVisit := ⟨((m + 0 : Nat) : Int), mt (m + 1), ((m + 2 : Nat) : Int), ((m + 3 : Nat) : Int)⟩
def markLVisit (n k : Nat) : List DVisit := (List.range n).map fun i => mark1Visit (k + 4 * i)
theorem markLVisit_get (n k i : Nat) (h : i < n) : (markLVisit n k)[i]? = some (mark1Visit (k + 4 * i)) := by simp [markLVisit, h]
theorem markLVisit_len (n k : Nat) : (markLVisit n k).length = n := by simp [markLVisit]

end Go.Proofs.YtbgmhlbcohdobaaGreatDoor

