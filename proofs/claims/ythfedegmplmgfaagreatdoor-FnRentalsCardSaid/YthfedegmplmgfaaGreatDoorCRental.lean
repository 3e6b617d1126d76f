/- Rental: how one lies, and the law files' helpers on it. -/
import Derived.Test.YthfedegmplmgfaaGreatDoorRows
import Derived.Test.YthfedegmplmgfaaGreatDoorMem
import Derived.Test.YthfedegmplmgfaaGreatDoorLaw
import Derived.Test.YthfedegmplmgfaaGreatDoorConvS
import Derived.Test.YthfedegmplmgfaaGreatDoorMarks
import Derived.StillTailTactics
import Derived.Laws.StructEq
namespace Go.Proofs.YthfedegmplmgfaaGreatDoor
set_option linter.unusedVariables false
set_option linter.unusedSimpArgs false
set_option linter.unusedSectionVars false
open Go.RowKit

structure DRental where
  fId : ByteArray
  fItem : ByteArray
  fDay : Int
  fMonths : Int
  fFee : Int
def rentalE : Enc DRental := ⟨5, fun x => [.string x.fId, .string x.fItem, .int .i64 x.fDay, .int .i64 x.fMonths, .int .i64 x.fFee], fun _ => rfl, by decide, fun _ u h => by simp at h; rcases h with rfl | rfl | rfl | rfl | rfl <;> rfl⟩
def DRental.val (x : DRental) : Value := .agg #[.string x.fId, .string x.fItem, .int .i64 x.fDay, .int .i64 x.fMonths, .int .i64 x.fFee]
def DRental.good (x : DRental) : Prop := x.fId.size ≤ maxLen ∧ x.fItem.size ≤ maxLen ∧ (-9223372036854775808 ≤ x.fDay ∧ x.fDay ≤ 9223372036854775807) ∧ (-9223372036854775808 ≤ x.fMonths ∧ x.fMonths ≤ 9223372036854775807) ∧ (-9223372036854775808 ≤ x.fFee ∧ x.fFee ≤ 9223372036854775807)
def DRental.sz (x : DRental) : Int := x.fId.size + x.fItem.size
def sumRental : List DRental → Int
  | [] => 0
  | x :: r => x.sz + sumRental r
theorem DRental.sz_nonneg (x : DRental) : 0 ≤ x.sz := by unfold DRental.sz; omega
theorem sumRental_nonneg (l : List DRental) : 0 ≤ sumRental l := by
  induction l with
  | nil => simp [sumRental]
  | cons s r ih => have := s.sz_nonneg; simp only [sumRental]; omega
theorem sumRental_mem {l : List DRental} {x : DRental} (h : x ∈ l) : x.sz ≤ sumRental l := by
  induction l with
  | nil => cases h
  | cons y r ih =>
    have h0 := sumRental_nonneg r
    have h1 := y.sz_nonneg
    simp only [sumRental]
    cases List.mem_cons.1 h with
    | inl e => subst e; omega
    | inr e => have := ih e; omega


/-- whether two are the same, field by field -/
def DRental.eqv (x y : DRental) : Bool := (x.fId.toList == y.fId.toList) && ((x.fItem.toList == y.fItem.toList) && ((x.fDay == y.fDay) && ((x.fMonths == y.fMonths) && (x.fFee == y.fFee))))
theorem DRental.eqv_iff (x y : DRental) : x.eqv y = true ↔ x = y := by
  constructor
  · intro h
    simp only [DRental.eqv, Bool.and_eq_true, beq_iff_eq] at h
    obtain ⟨e0, e1, e2, e3, e4⟩ := h
    cases x; cases y
    simp only [DRental.mk.injEq]
    exact ⟨ba_ext (by simpa [ByteArray.toList_eq] using e0), ba_ext (by simpa [ByteArray.toList_eq] using e1), e2, e3, e4⟩
  · rintro rfl
    simp [DRental.eqv]

theorem run_eql_Rental (x y : DRental) (w : World) : (binOp .eql 37 (.agg #[.string x.fId, .string x.fItem, .int .i64 x.fDay, .int .i64 x.fMonths, .int .i64 x.fFee]) (.agg #[.string y.fId, .string y.fItem, .int .i64 y.fDay, .int .i64 y.fMonths, .int .i64 y.fFee])).run Tryz.prog w = .ok (.bool (x.eqv y)) w := by
  have hS : Tryz.prog.underlying 37 = some (.struct (Tryz.prog.fieldsOf 37)) := by kernel_rfl
  have hp : Tryz.prog.stoodInHeld 37 = false := by kernel_rfl
  rw [run_eql_struct, show (10000 : Nat) = 9999 + 1 from rfl, run_equalIn_agg w 9999 37 _ _ hS hp]
  simp only [Program.fieldsOf, Tryz.underlying37]
  go_simp
  unfold DRental.eqv
  rcases h0 : (x.fId.toList == y.fId.toList) with _ | _ <;> rcases h1 : (x.fItem.toList == y.fItem.toList) with _ | _ <;> rcases h2 : (x.fDay == y.fDay) with _ | _ <;> rcases h3 : (x.fMonths == y.fMonths) with _ | _ <;> rcases h4 : (x.fFee == y.fFee) with _ | _ <;> simp_all
theorem run_neq_Rental (x y : DRental) (w : World) : (binOp .neq 37 (.agg #[.string x.fId, .string x.fItem, .int .i64 x.fDay, .int .i64 x.fMonths, .int .i64 x.fFee]) (.agg #[.string y.fId, .string y.fItem, .int .i64 y.fDay, .int .i64 y.fMonths, .int .i64 y.fFee])).run Tryz.prog w = .ok (.bool (!x.eqv y)) w := by
  have hS : Tryz.prog.underlying 37 = some (.struct (Tryz.prog.fieldsOf 37)) := by kernel_rfl
  have hp : Tryz.prog.stoodInHeld 37 = false := by kernel_rfl
  rw [run_neq_struct, show (10000 : Nat) = 9999 + 1 from rfl, run_equalIn_agg w 9999 37 _ _ hS hp]
  simp only [Program.fieldsOf, Tryz.underlying37]
  go_simp
  unfold DRental.eqv
  rcases h0 : (x.fId.toList == y.fId.toList) with _ | _ <;> rcases h1 : (x.fItem.toList == y.fItem.toList) with _ | _ <;> rcases h2 : (x.fDay == y.fDay) with _ | _ <;> rcases h3 : (x.fMonths == y.fMonths) with _ | _ <;> rcases h4 : (x.fFee == y.fFee) with _ | _ <;> simp_all

def mark1Rental (m : Nat) : DRental := ⟨mt (m + 0), mt (m + 1), ((m + 2 : Nat) : Int), ((m + 3 : Nat) : Int), ((m + 4 : Nat) : Int)⟩
def markLRental (n k : Nat) : List DRental := (List.range n).map fun i => mark1Rental (k + 5 * i)
theorem markLRental_get (n k i : Nat) (h : i < n) : (markLRental n k)[i]? = some (mark1Rental (k + 5 * i)) := by simp [markLRental, h]
theorem markLRental_len (n k : Nat) : (markLRental n k).length = n := by simp [markLRental]

end Go.Proofs.YthfedegmplmgfaaGreatDoor

