/- Rib: how one lies, and the law files' helpers on it. -/
import Derived.Test.YtdpgnlclcakhkaaDoorRows
import Derived.Test.YtdpgnlclcakhkaaDoorMem
import Derived.Test.YtdpgnlclcakhkaaDoorLaw
import Derived.Test.YtdpgnlclcakhkaaDoorConvS
import Derived.Test.YtdpgnlclcakhkaaDoorMarks
import Derived.StillTailTactics
import Derived.Laws.StructEq
namespace Go.Proofs.YtdpgnlclcakhkaaDoor
set_option linter.unusedVariables false
set_option linter.unusedSimpArgs false
set_option linter.unusedSectionVars false
open Go.RowKit

structure DRib where
  fId : ByteArray
  fLength : Int
  fHeight : Int
def ribE : Enc DRib := ⟨3, fun x => [.string x.fId, .int .i64 x.fLength, .int .i64 x.fHeight], fun _ => rfl, by decide, fun _ u h => by simp at h; rcases h with rfl | rfl | rfl <;> rfl⟩
def DRib.val (x : DRib) : Value := .agg #[.string x.fId, .int .i64 x.fLength, .int .i64 x.fHeight]
def DRib.good (x : DRib) : Prop := x.fId.size ≤ maxLen ∧ (-9223372036854775808 ≤ x.fLength ∧ x.fLength ≤ 9223372036854775807) ∧ (-9223372036854775808 ≤ x.fHeight ∧ x.fHeight ≤ 9223372036854775807)
def DRib.sz (x : DRib) : Int := x.fId.size
def sumRib : List DRib → Int
  | [] => 0
  | x :: r => x.sz + sumRib r
theorem DRib.sz_nonneg (x : DRib) : 0 ≤ x.sz := by unfold DRib.sz; omega
theorem sumRib_nonneg (l : List DRib) : 0 ≤ sumRib l := by
  induction l with
  | nil => simp [sumRib]
  | cons s r ih => have := s.sz_nonneg; simp only [sumRib]; omega
theorem sumRib_mem {l : List DRib} {x : DRib} (h : x ∈ l) : x.sz ≤ sumRib l := by
  induction l with
  | nil => cases h
  | cons y r ih =>
    have h0 := sumRib_nonneg r
    have h1 := y.sz_nonneg
    simp only [sumRib]
    cases List.mem_cons.1 h with
    | inl e => subst e; omega
    | inr e => have := ih e; omega


/-- whether two are the same, field by field -/
def DRib.eqv (x y : DRib) : Bool := (x.fId.toList == y.fId.toList) && ((x.fLength == y.fLength) && (x.fHeight == y.fHeight))
theorem DRib.eqv_iff (x y : DRib) : x.eqv y = true ↔ x = y := by
  constructor
  · intro h
    simp only [DRib.eqv, Bool.and_eq_true, beq_iff_eq] at h
    obtain ⟨e0, e1, e2⟩ := h
    cases x; cases y
    simp only [DRib.mk.injEq]
    exact ⟨ba_ext (by simpa [ByteArray.toList_eq] using e0), e1, e2⟩
  · rintro rfl
    simp [DRib.eqv]

theorem run_eql_Rib (x y : DRib) (w : World) : (binOp .eql 23 (.agg #[.string x.fId, .int .i64 x.fLength, .int .i64 x.fHeight]) (.agg #[.string y.fId, .int .i64 y.fLength, .int .i64 y.fHeight])).run Tryd.prog w = .ok (.bool (x.eqv y)) w := by
  have hS : Tryd.prog.underlying 23 = some (.struct (Tryd.prog.fieldsOf 23)) := by kernel_rfl
  have hp : Tryd.prog.stoodInHeld 23 = false := by kernel_rfl
  rw [run_eql_struct, show (10000 : Nat) = 9999 + 1 from rfl, run_equalIn_agg w 9999 23 _ _ hS hp]
  simp only [Program.fieldsOf, Tryd.underlying23]
  go_simp
  unfold DRib.eqv
  rcases h0 : (x.fId.toList == y.fId.toList) with _ | _ <;> rcases h1 : (x.fLength == y.fLength) with _ | _ <;> rcases h2 : (x.fHeight == y.fHeight) with _ | _ <;> simp_all
theorem run_neq_Rib (x y : DRib) (w : World) : (binOp .neq 23 (.agg #[.string x.fId, .int .i64 x.fLength, .int .i64 x.fHeight]) (.agg #[.string y.fId, .int .i64 y.fLength, .int .i64 y.fHeight])).run Tryd.prog w = .ok (.bool (!x.eqv y)) w := by
  have hS : Tryd.prog.underlying 23 = some (.struct (Tryd.prog.fieldsOf 23)) := by kernel_rfl
  have hp : Tryd.prog.stoodInHeld 23 = false := by kernel_rfl
  rw [run_neq_struct, show (10000 : Nat) = 9999 + 1 from rfl, run_equalIn_agg w 9999 23 _ _ hS hp]
  simp only [Program.fieldsOf, Tryd.underlying23]
  go_simp
  unfold DRib.eqv
  rcases h0 : (x.fId.toList == y.fId.toList) with _ | _ <;> rcases h1 : (x.fLength == y.fLength) with _ | _ <;> rcases h2 : (x.fHeight == y.fHeight) with _ | _ <;> simp_all

set_option maxHeartbeats 400000 in
theorem l_eqRib (x : DRib) (w : World) :
    Calls Tryd.prog 17 #[.agg #[.string x.fId, .int .i64 x.fLength, .int .i64 x.fHeight], .agg #[.string x.fId, .int .i64 x.fLength, .int .i64 x.fHeight]] w (RetB true w) := by
  go_enter Tryd.func17, Tryd.ntmps17
  go_wp2
  go_ret
  exact ⟨rfl, by (repeat (first | exact Below.refl _ _ | assumption | refine Below.drew ?_ | refine Below.alloc ?_ (by first | omega | (simp; done) | (simp; omega) | exact Below.size (by assumption)) _ | refine Below.setCell ?_ (by first | omega | (simp; done) | (simp; omega)) _))⟩

def mark1Rib (m : Nat) : DRib := ⟨mt (m + 0), ((m + 1 : Nat) : Int), ((m + 2 : Nat) : Int)⟩
def markLRib (n k : Nat) : List DRib := (List.range n).map fun i => mark1Rib (k + 3 * i)
theorem markLRib_get (n k i : Nat) (h : i < n) : (markLRib n k)[i]? = some (mark1Rib (k + 3 * i)) := by simp [markLRib, h]
theorem markLRib_len (n k : Nat) : (markLRib n k).length = n := by simp [markLRib]

end Go.Proofs.YtdpgnlclcakhkaaDoor

