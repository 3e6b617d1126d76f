/- Quote: how one lies, and the law files' helpers on it. -/
import Derived.Test.YtbfmfiaenihmoaaGreatDoorRows
import Derived.Test.YtbfmfiaenihmoaaGreatDoorMem
import Derived.Test.YtbfmfiaenihmoaaGreatDoorLaw
import Derived.Test.YtbfmfiaenihmoaaGreatDoorConvS
import Derived.Test.YtbfmfiaenihmoaaGreatDoorMarks
import Derived.StillTailTactics
import Derived.Laws.StructEq
namespace Go.Proofs.YtbfmfiaenihmoaaGreatDoor
set_option linter.unusedVariables false
set_option linter.unusedSimpArgs false
set_option linter.unusedSectionVars false
open Go.RowKit

structure DQuote where
  fId : ByteArray
  fHours : Int
  fRate : Int
  fMaterial : Int
  fMargin : Int
def quoteE : Enc DQuote := ⟨5, fun x => [.string x.fId, .int .i64 x.fHours, .int .i64 x.fRate, .int .i64 x.fMaterial, .int .i64 x.fMargin], fun _ => rfl, by decide, fun _ u h => by simp at h; rcases h with rfl | rfl | rfl | rfl | rfl <;> rfl⟩
def DQuote.val (x : DQuote) : Value := .agg #[.string x.fId, .int .i64 x.fHours, .int .i64 x.fRate, .int .i64 x.fMaterial, .int .i64 x.fMargin]
def DQuote.good (x : DQuote) : Prop := x.fId.size ≤ maxLen ∧ (-9223372036854775808 ≤ x.fHours ∧ x.fHours ≤ 9223372036854775807) ∧ (-9223372036854775808 ≤ x.fRate ∧ x.fRate ≤ 9223372036854775807) ∧ (-9223372036854775808 ≤ x.fMaterial ∧ x.fMaterial ≤ 9223372036854775807) ∧ (-9223372036854775808 ≤ x.fMargin ∧ x.fMargin ≤ 9223372036854775807)
def DQuote.sz (x : DQuote) : Int := x.fId.size
def sumQuote : List DQuote → Int
  | [] => 0
  | x :: r => x.sz + sumQuote r
theorem DQuote.sz_nonneg (x : DQuote) : 0 ≤ x.sz := by unfold DQuote.sz; omega
theorem sumQuote_nonneg (l : List DQuote) : 0 ≤ sumQuote l := by
  induction l with
  | nil => simp [sumQuote]
  | cons s r ih => have := s.sz_nonneg; simp only [sumQuote]; omega
theorem sumQuote_mem {l : List DQuote} {x : DQuote} (h : x ∈ l) : x.sz ≤ sumQuote l := by
  induction l with
  | nil => cases h
  | cons y r ih =>
    have h0 := sumQuote_nonneg r
    have h1 := y.sz_nonneg
    simp only [sumQuote]
    cases List.mem_cons.1 h with
    | inl e => subst e; omega
    | inr e => have := ih e; omega


/-- whether two are the same, field by field -/
def DQuote.eqv (x y : DQuote) : Bool := (x.fId.toList == y.fId.toList) && ((x.fHours == y.fHours) && ((x.fRate == y.fRate) && ((x.fMaterial == y.fMaterial) && (x.fMargin == y.fMargin))))
theorem DQuote.eqv_iff (x y : DQuote) : x.eqv y = true ↔ x = y := by
  constructor
  · intro h
    simp only [DQuote.eqv, Bool.and_eq_true, beq_iff_eq] at h
    obtain ⟨e0, e1, e2, e3, e4⟩ := h
    cases x; cases y
    simp only [DQuote.mk.injEq]
    exact ⟨ba_ext (by simpa [ByteArray.toList_eq] using e0), e1, e2, e3, e4⟩
  · rintro rfl
    simp [DQuote.eqv]

theorem run_eql_Quote (x y : DQuote) (w : World) : (binOp .eql 32 (.agg #[.string x.fId, .int .i64 x.fHours, .int .i64 x.fRate, .int .i64 x.fMaterial, .int .i64 x.fMargin]) (.agg #[.string y.fId, .int .i64 y.fHours, .int .i64 y.fRate, .int .i64 y.fMaterial, .int .i64 y.fMargin])).run Tryz.prog w = .ok (.bool (x.eqv y)) w := by
  have hS : Tryz.prog.underlying 32 = some (.struct (Tryz.prog.fieldsOf 32)) := by kernel_rfl
  have hp : Tryz.prog.stoodInHeld 32 = false := by kernel_rfl
  rw [run_eql_struct, show (10000 : Nat) = 9999 + 1 from rfl, run_equalIn_agg w 9999 32 _ _ hS hp]
  simp only [Program.fieldsOf, Tryz.underlying32]
  go_simp
  unfold DQuote.eqv
  rcases h0 : (x.fId.toList == y.fId.toList) with _ | _ <;> rcases h1 : (x.fHours == y.fHours) with _ | _ <;> rcases h2 : (x.fRate == y.fRate) with _ | _ <;> rcases h3 : (x.fMaterial == y.fMaterial) with _ | _ <;> rcases h4 : (x.fMargin == y.fMargin) with _ | _ <;> simp_all
theorem run_neq_Quote (x y : DQuote) (w : World) : (binOp .neq 32 (.agg #[.string x.fId, .int .i64 x.fHours, .int .i64 x.fRate, .int .i64 x.fMaterial, .int .i64 x.fMargin]) (.agg #[.string y.fId, .int .i64 y.fHours, .int .i64 y.fRate, .int .i64 y.fMaterial, .int .i64 y.fMargin])).run Tryz.prog w = .ok (.bool (!x.eqv y)) w := by
  have hS : Tryz.prog.underlying 32 = some (.struct (Tryz.prog.fieldsOf 32)) := by kernel_rfl
  have hp : Tryz.prog.stoodInHeld 32 = false := by kernel_rfl
  rw [run_neq_struct, show (10000 : Nat) = 9999 + 1 from rfl, run_equalIn_agg w 9999 32 _ _ hS hp]
  simp only [Program.fieldsOf, Tryz.underlying32]
  go_simp
  unfold DQuote.eqv
  rcases h0 : (x.fId.toList == y.fId.toList) with _ | _ <;> rcases h1 : (x.fHours == y.fHours) with _ | _ <;> rcases h2 : (x.fRate == y.fRate) with _ | _ <;> rcases h3 : (x.fMaterial == y.fMaterial) with _ | _ <;> rcases h4 : (x.fMargin == y.fMargin) with _ | _ <;> simp_all

def mark1Quote (m : Nat) : DQuote := ⟨mt (m + 0), ((m + 1 : Nat) : Int), ((m + 2 : Nat) : Int), ((m + 3 : Nat) : Int), ((m + 4 : Nat) : Int)⟩
def markLQuote (n k : Nat) : List DQuote := (List.range n).map fun i => mark1Quote (k + 5 * i)
theorem markLQuote_get (n k i : Nat) (h : i < n) : (markLQuote n k)[i]? = some (mark1Quote (k + 5 * i)) := by simp [markLQuote, h]
theorem markLQuote_len (n k : Nat) : (markLQuote n k).length = n := by simp [markLQuote]

end Go.Proofs.YtbfmfiaenihmoaaGreatDoor

