/- Grant: how one lies, and the law files' helpers on it. -/
import Derived.Test.YtbblkmnafdmcdaaDoorRows
import Derived.Test.YtbblkmnafdmcdaaDoorMem
import Derived.Test.YtbblkmnafdmcdaaDoorLaw
import Derived.Test.YtbblkmnafdmcdaaDoorConvS
import Derived.Test.YtbblkmnafdmcdaaDoorMarks
import Derived.StillTailTactics
import Derived.Laws.StructEq
namespace Go.Proofs.YtbblkmnafdmcdaaDoor
set_option linter.unusedVariables false
set_option linter.unusedSimpArgs false
set_option linter.unusedSectionVars false
open Go.RowKit

structure DGrant where
  fRole : ByteArray
  fObject : ByteArray
  fAction : Int
def grantE : Enc DGrant := ⟨3, fun x => [.string x.fRole, .string x.fObject, .int .i64 x.fAction], fun _ => rfl, by decide, fun _ u h => by simp at h; rcases h with rfl | rfl | rfl <;> rfl⟩
def DGrant.val (x : DGrant) : Value := .agg #[.string x.fRole, .string x.fObject, .int .i64 x.fAction]
def DGrant.good (x : DGrant) : Prop := x.fRole.size ≤ maxLen ∧ x.fObject.size ≤ maxLen ∧ (-9223372036854775808 ≤ x.fAction ∧ x.fAction ≤ 9223372036854775807)
def DGrant.sz (x : DGrant) : Int := x.fRole.size + x.fObject.size
def sumGrant : List DGrant → Int
  | [] => 0
  | x :: r => x.sz + sumGrant r
theorem DGrant.sz_nonneg (x : DGrant) : 0 ≤ x.sz := by unfold DGrant.sz; omega
theorem sumGrant_nonneg (l : List DGrant) : 0 ≤ sumGrant l := by
  induction l with
  | nil => simp [sumGrant]
  | cons s r ih => have := s.sz_nonneg; simp only [sumGrant]; omega
theorem sumGrant_mem {l : List DGrant} {x : DGrant} (h : x ∈ l) : x.sz ≤ sumGrant l := by
  induction l with
  | nil => cases h
  | cons y r ih =>
    have h0 := sumGrant_nonneg r
    have h1 := y.sz_nonneg
    simp only [sumGrant]
    cases List.mem_cons.1 h with
    | inl e => subst e; omega
    | inr e => have := ih e; omega


/-- whether two are the same, field by field -/
def DGrant.eqv (x y : DGrant) : Bool := (x.fRole.toList == y.fRole.toList) && ((x.fObject.toList == y.fObject.toList) && (x.fAction == y.fAction))
theorem DGrant.eqv_iff (x y : DGrant) : x.eqv y = true ↔ x = y := by
  constructor
  · intro h
    simp only [DGrant.eqv, Bool.and_eq_true, beq_iff_eq] at h
    obtain ⟨e0, e1, e2⟩ := h
    cases x; cases y
    simp only [DGrant.mk.injEq]
    exact ⟨ba_ext (by simpa [ByteArray.toList_eq] using e0), ba_ext (by simpa [ByteArray.toList_eq] using e1), e2⟩
  · rintro rfl
    simp [DGrant.eqv]

theorem run_eql_Grant (x y : DGrant) (w : World) : (binOp .eql 29 (.agg #[.string x.fRole, .string x.fObject, .int .i64 x.fAction]) (.agg #[.string y.fRole, .string y.fObject, .int .i64 y.fAction])).run Tryd.prog w = .ok (.bool (x.eqv y)) w := by
  have hS : Tryd.prog.underlying 29 = some (.struct (Tryd.prog.fieldsOf 29)) := by kernel_rfl
  have hp : Tryd.prog.stoodInHeld 29 = false := by kernel_rfl
  rw [run_eql_struct, show (10000 : Nat) = 9999 + 1 from rfl, run_equalIn_agg w 9999 29 _ _ hS hp]
  simp only [Program.fieldsOf, Tryd.underlying29]
  go_simp
  unfold DGrant.eqv
  rcases h0 : (x.fRole.toList == y.fRole.toList) with _ | _ <;> rcases h1 : (x.fObject.toList == y.fObject.toList) with _ | _ <;> rcases h2 : (x.fAction == y.fAction) with _ | _ <;> simp_all
theorem run_neq_Grant (x y : DGrant) (w : World) : (binOp .neq 29 (.agg #[.string x.fRole, .string x.fObject, .int .i64 x.fAction]) (.agg #[.string y.fRole, .string y.fObject, .int .i64 y.fAction])).run Tryd.prog w = .ok (.bool (!x.eqv y)) w := by
  have hS : Tryd.prog.underlying 29 = some (.struct (Tryd.prog.fieldsOf 29)) := by kernel_rfl
  have hp : Tryd.prog.stoodInHeld 29 = false := by kernel_rfl
  rw [run_neq_struct, show (10000 : Nat) = 9999 + 1 from rfl, run_equalIn_agg w 9999 29 _ _ hS hp]
  simp only [Program.fieldsOf, Tryd.underlying29]
  go_simp
  unfold DGrant.eqv
  rcases h0 : (x.fRole.toList == y.fRole.toList) with _ | _ <;> rcases h1 : (x.fObject.toList == y.fObject.toList) with _ | _ <;> rcases h2 : (x.fAction == y.fAction) with _ | _ <;> simp_all

set_option maxHeartbeats 400000 in
theorem l_eqGrant (x : DGrant) (w : World) :
    Calls Tryd.prog 12 #[.agg #[.string x.fRole, .string x.fObject, .int .i64 x.fAction], .agg #[.string x.fRole, .string x.fObject, .int .i64 x.fAction]] w (RetB true w) := by
  go_enter Tryd.func12, Tryd.ntmps12
  go_wp2
  go_ret
  exact ⟨rfl, by (repeat (first | exact Below.refl _ _ | assumption | refine Below.drew ?_ | refine Below.alloc ?_ (by first | omega | (simp; done) | (simp; omega) | exact Below.size (by assumption)) _ | refine Below.setCell ?_ (by first | omega | (simp; done) | (simp; omega)) _))⟩

def mark1Grant (m : Nat) : DGrant := ⟨mt (m + 0), mt (m + 1), ((m + 2 : Nat) : Int)⟩
def markLGrant (n k : Nat) : List DGrant := (List.range n).map fun i => mark1Grant (k + 3 * i)
theorem markLGrant_get (n k i : Nat) (h : i < n) : (markLGrant n k)[i]? = some (mark1Grant (k + 3 * i)) := by simp [markLGrant, h]
theorem markLGrant_len (n k : Nat) : (markLGrant n k).length = n := by simp [markLGrant]

end Go.Proofs.YtbblkmnafdmcdaaDoor

