/- Peg: how one lies, and the law files' helpers on it. -/
import Derived.Test.YtdpgnlclcakhkaaDoorRows
import Derived.Test.YtdpgnlclcakhkaaDoorMem
import Derived.Test.YtdpgnlclcakhkaaDoorLaw
import Derived.Test.YtdpgnlclcakhkaaDoorConvS
import Derived.Test.YtdpgnlclcakhkaaDoorMarks
import Derived.StillTailTactics
import Derived.Laws.StructEq
namespace Go.Proofs.YtdpgnlclcakhkaaDoor
set_option linter.unusedVariables false
set_option linter.unusedSimpArgs false
set_option linter.unusedSectionVars false
open Go.RowKit

structure DPeg where
  fId : ByteArray
  fThick : Int
  fLength : Int
  fTaper : Int
def pegE : Enc DPeg := ⟨4, fun x => [.string x.fId, .int .i64 x.fThick, .int .i64 x.fLength, .int .i64 x.fTaper], fun _ => rfl, by decide, fun _ u h => by simp at h; rcases h with rfl | rfl | rfl | rfl <;> rfl⟩
def DPeg.val (x : DPeg) : Value := .agg #[.string x.fId, .int .i64 x.fThick, .int .i64 x.fLength, .int .i64 x.fTaper]
def DPeg.good (x : DPeg) : Prop := x.fId.size ≤ maxLen ∧ (-9223372036854775808 ≤ x.fThick ∧ x.fThick ≤ 9223372036854775807) ∧ (-9223372036854775808 ≤ x.fLength ∧ x.fLength ≤ 9223372036854775807) ∧ (-9223372036854775808 ≤ x.fTaper ∧ x.fTaper ≤ 9223372036854775807)
def DPeg.sz (x : DPeg) : Int := x.fId.size
def sumPeg : List DPeg → Int
  | [] => 0
  | x :: r => x.sz + sumPeg r
theorem DPeg.sz_nonneg (x : DPeg) : 0 ≤ x.sz := by unfold DPeg.sz; omega
theorem sumPeg_nonneg (l : List DPeg) : 0 ≤ sumPeg l := by
  induction l with
  | nil => simp [sumPeg]
  | cons s r ih => have := s.sz_nonneg; simp only [sumPeg]; omega
theorem sumPeg_mem {l : List DPeg} {x : DPeg} (h : x ∈ l) : x.sz ≤ sumPeg l := by
  induction l with
  | nil => cases h
  | cons y r ih =>
    have h0 := sumPeg_nonneg r
    have h1 := y.sz_nonneg
    simp only [sumPeg]
    cases List.mem_cons.1 h with
    | inl e => subst e; omega
    | inr e => have := ih e; omega


/-- whether two are the same, field by field -/
def DPeg.eqv (x y : DPeg) : Bool := (x.fId.toList == y.fId.toList) && ((x.fThick == y.fThick) && ((x.fLength == y.fLength) && (x.fTaper == y.fTaper)))
theorem DPeg.eqv_iff (x y : DPeg) : x.eqv y = true ↔ x = y := by
  constructor
  · intro h
    simp only [DPeg.eqv, Bool.and_eq_true, beq_iff_eq] at h
    obtain ⟨e0, e1, e2, e3⟩ := h
    cases x; cases y
    simp only [DPeg.mk.injEq]
    exact ⟨ba_ext (by simpa [ByteArray.toList_eq] using e0), e1, e2, e3⟩
  · rintro rfl
    simp [DPeg.eqv]

theorem run_eql_Peg (x y : DPeg) (w : World) : (binOp .eql 49 (.agg #[.string x.fId, .int .i64 x.fThick, .int .i64 x.fLength, .int .i64 x.fTaper]) (.agg #[.string y.fId, .int .i64 y.fThick, .int .i64 y.fLength, .int .i64 y.fTaper])).run Tryd.prog w = .ok (.bool (x.eqv y)) w := by
  have hS : Tryd.prog.underlying 49 = some (.struct (Tryd.prog.fieldsOf 49)) := by kernel_rfl
  have hp : Tryd.prog.stoodInHeld 49 = false := by kernel_rfl
  rw [run_eql_struct, show (10000 : Nat) = 9999 + 1 from rfl, run_equalIn_agg w 9999 49 _ _ hS hp]
  simp only [Program.fieldsOf, Tryd.underlying49]
  go_simp
  unfold DPeg.eqv
  rcases h0 : (x.fId.toList == y.fId.toList) with _ | _ <;> rcases h1 : (x.fThick == y.fThick) with _ | _ <;> rcases h2 : (x.fLength == y.fLength) with _ | _ <;> rcases h3 : (x.fTaper == y.fTaper) with _ | _ <;> simp_all
theorem run_neq_Peg (x y : DPeg) (w : World) : (binOp .neq 49 (.agg #[.string x.fId, .int .i64 x.fThick, .int .i64 x.fLength, .int .i64 x.fTaper]) (.agg #[.string y.fId, .int .i64 y.fThick, .int .i64 y.fLength, .int .i64 y.fTaper])).run Tryd.prog w = .ok (.bool (!x.eqv y)) w := by
  have hS : Tryd.prog.underlying 49 = some (.struct (Tryd.prog.fieldsOf 49)) := by kernel_rfl
  have hp : Tryd.prog.stoodInHeld 49 = false := by kernel_rfl
  rw [run_neq_struct, show (10000 : Nat) = 9999 + 1 from rfl, run_equalIn_agg w 9999 49 _ _ hS hp]
  simp only [Program.fieldsOf, Tryd.underlying49]
  go_simp
  unfold DPeg.eqv
  rcases h0 : (x.fId.toList == y.fId.toList) with _ | _ <;> rcases h1 : (x.fThick == y.fThick) with _ | _ <;> rcases h2 : (x.fLength == y.fLength) with _ | _ <;> rcases h3 : (x.fTaper == y.fTaper) with _ | _ <;> simp_all

set_option maxHeartbeats 400000 in
theorem l_eqPeg (x : DPeg) (w : World) :
    Calls Tryd.prog 32 #[.agg #[.string x.fId, .int .i64 x.fThick, .int .i64 x.fLength, .int .i64 x.fTaper], .agg #[.string x.fId, .int .i64 x.fThick, .int .i64 x.fLength, .int .i64 x.fTaper]] w (RetB true w) := by
  go_enter Tryd.func32, Tryd.ntmps32
  go_wp2
  go_ret
  exact ⟨rfl, by (repeat (first | exact Below.refl _ _ | assumption | refine Below.drew ?_ | refine Below.alloc ?_ (by first | omega | (simp; done) | (simp; omega) | exact Below.size (by assumption)) _ | refine Below.setCell ?_ (by first | omega | (simp; done) | (simp; omega)) _))⟩

def mark1Peg (m : Nat) : DPeg := ⟨mt (m + 0), ((m + 1 : Nat) : Int), ((m + 2 : Nat) : Int), ((m + 3 : Nat) : Int)⟩
def markLPeg (n k : Nat) : List DPeg := (List.range n).map fun i => mark1Peg (k + 4 * i)
theorem markLPeg_get (n k i : Nat) (h : i < n) : (markLPeg n k)[i]? = some (mark1Peg (k + 4 * i)) := by simp [markLPeg, h]
theorem markLPeg_len (n k : Nat) : (markLPeg n k).length = n := by simp [markLPeg]

end Go.Proofs.YtdpgnlclcakhkaaDoor

