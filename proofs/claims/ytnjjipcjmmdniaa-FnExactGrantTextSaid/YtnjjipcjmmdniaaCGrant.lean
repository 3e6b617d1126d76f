/- Grant: how one lies, and the law files' helpers on it. -/
import Derived.Test.YtnjjipcjmmdniaaRows
import Derived.Test.YtnjjipcjmmdniaaMem
import Derived.Test.YtnjjipcjmmdniaaLaw
import Derived.Test.YtnjjipcjmmdniaaConvS
import Derived.Test.YtnjjipcjmmdniaaMarks
import Derived.StillTailTactics
import Derived.Laws.StructEq
namespace Go.Proofs.Ytnjjipcjmmdniaa
set_option linter.unusedVariables false
set_option linter.unusedSimpArgs false
set_option linter.unusedSectionVars false
open Go.RowKit

structure DGrant where
  fRole : ByteArray
  fObject : ByteArray
  fAction : Int
def grantE : Enc DGrant := ⟨3, fun x => [.string x.fRole, .string x.fObject, .int .i64 x.fAction], fun _ => rfl, by decide, fun _ u h => by simp at h; rcases h with rfl | rfl | rfl <;> rfl⟩
def DGrant.val (x : DGrant) : Value := .agg #[.string x.fRole, .string x.fObject, .int .i64 x.fAction]
def DGrant.good (x : DGrant) : Prop := x.fRole.size ≤ maxLen ∧ x.fObject.size ≤ maxLen ∧ (-9223372036854775808 ≤ x.fAction ∧ x.fAction ≤ 9223372036854775807)
def DGrant.sz (x : DGrant) : Int := x.fRole.size + x.fObject.size
def sumGrant : List DGrant → Int
  | [] => 0
  | x :: r => x.sz + sumGrant r
theorem DGrant.sz_nonneg (x : DGrant) : 0 ≤ x.sz := by unfold DGrant.sz; omega
theorem sumGrant_nonneg (l : List DGrant) : 0 ≤ sumGrant l := by
  induction l with
  | nil => simp [sumGrant]
  | cons s r ih => have := s.sz_nonneg; simp only [sumGrant]; omega
theorem sumGrant_mem {l : List DGrant} {x : DGrant} (h : x ∈ l) : x.sz ≤ sumGrant l := by
  induction l with
  | nil => cases h
  | cons y r ih =>
    have h0 := sumGrant_nonneg r
    have h1 := y.sz_nonneg
    simp only [sumGrant]
    cases List.mem_cons.1 h with
    | inl e => subst e; omega
    | inr e => have := ih e; omega


/-- whether two are the same, field by field -/
def DGrant.eqv (x y : DGrant) : Bool := (x.fRole.toList == y.fRole.toList) && ((x.fObject.toList == y.fObject.toList) && (x.fAction == y.fAction))
theorem DGrant.eqv_iff (x y : DGrant) : x.eqv y = true ↔ x = y := by
  constructor
  · intro h
    simp only [DGrant.eqv, Bool.and_eq_true, beq_iff_eq] at h
    obtain ⟨e0, e1, e2⟩ := h
    cases x; cases y
    simp only [DGrant.mk.injEq]
    exact ⟨ba_ext (by simpa [ByteArray.toList_eq] using e0), ba_ext (by simpa [ByteArray.toList_eq] using e1), e2⟩
  · rintro rfl
    simp [DGrant.eqv]

theorem run_eql_Grant (x y : DGrant) (w : World) : (binOp .eql 33 (.agg #[.string x.fRole, .string x.fObject, .int .i64 x.fAction]) (.agg #[.string y.fRole, .string y.fObject, .int .i64 y.fAction])).run Try.prog w = .ok (.bool (x.eqv y)) w := by
  have hS : Try.prog.underlying 33 = some (.struct (Try.prog.fieldsOf 33)) := by kernel_rfl
  have hp : Try.prog.stoodInHeld 33 = false := by kernel_rfl
  rw [run_eql_struct, show (10000 : Nat) = 9999 + 1 from rfl, run_equalIn_agg w 9999 33 _ _ hS hp]
  simp only [Program.fieldsOf, Try.underlying33]
  go_simp
  unfold DGrant.eqv
  rcases h0 : (x.fRole.toList == y.fRole.toList) with _ | _ <;> rcases h1 : (x.fObject.toList == y.fObject.toList) with _ | _ <;> rcases h2 : (x.fAction == y.fAction) with _ | _ <;> simp_all
theorem run_neq_Grant (x y : DGrant) (w : World) : (binOp .neq 33 (.agg #[.string x.fRole, .string x.fObject, .int .i64 x.fAction]) (.agg #[.string y.fRole, .string y.fObject, .int .i64 y.fAction])).run Try.prog w = .ok (.bool (!x.eqv y)) w := by
  have hS : Try.prog.underlying 33 = some (.struct (Try.prog.fieldsOf 33)) := by kernel_rfl
  have hp : Try.prog.stoodInHeld 33 = false := by kernel_rfl
  rw [run_neq_struct, show (10000 : Nat) = 9999 + 1 from rfl, run_equalIn_agg w 9999 33 _ _ hS hp]
  simp only [Program.fieldsOf, Try.underlying33]
  go_simp
  unfold DGrant.eqv
  rcases h0 : (x.fRole.toList == y.fRole.toList) with _ | _ <;> rcases h1 : (x.fObject.toList == y.fObject.toList) with _ | _ <;> rcases h2 : (x.fAction == y.fAction) with _ | _ <;> simp_all

theorem el_Grant {H : Type} {enc : TypeId × Value → H} {w : World} {base : Nat} {spare : Nat → Bool} {held : Bool} (n : Nat) (cs : List Value) (y : DataW H × List MemPlace) (h : DataW.trod enc Try.prog w base spare held n 30 cs = some y) : ∃ x, cs = grantE.cells x ∧ x.good := by
  obtain ⟨xs, m, _, _, hlen, _, hf⟩ := DataW.trod_struct Try.underlying30 h
  have hlen' : cs.length = 3 := hlen.trans (by kernel_rfl)
  have g0 := hf 0 _ rfl
  have g1 := hf 1 _ rfl
  have g2 := hf 2 _ rfl
  match cs, hlen' with
  | [c0, c1, c2], _ =>
    have e0 : (([c0, c1, c2].drop 0).take (Try.prog.cellsOf 9)) = [c0] := by rw [show Try.prog.cellsOf 9 = 1 by kernel_rfl]; rfl
    obtain ⟨y0, hy0⟩ : ∃ y, DataW.trod enc Try.prog w base spare held m 9 [c0] = some y := by rw [← e0]; exact ⟨_, g0.trans (List.getElem?_eq_getElem (by simp_all))⟩
    obtain ⟨x0, hx0, _, hz0⟩ := DataW.trod_string Try.underlying9 hy0
    have e1 : (([c0, c1, c2].drop 1).take (Try.prog.cellsOf 9)) = [c1] := by rw [show Try.prog.cellsOf 9 = 1 by kernel_rfl]; rfl
    obtain ⟨y1, hy1⟩ : ∃ y, DataW.trod enc Try.prog w base spare held m 9 [c1] = some y := by rw [← e1]; exact ⟨_, g1.trans (List.getElem?_eq_getElem (by simp_all))⟩
    obtain ⟨x1, hx1, _, hz1⟩ := DataW.trod_string Try.underlying9 hy1
    have e2 : (([c0, c1, c2].drop 2).take (Try.prog.cellsOf 2)) = [c2] := by rw [show Try.prog.cellsOf 2 = 1 by kernel_rfl]; rfl
    obtain ⟨y2, hy2⟩ : ∃ y, DataW.trod enc Try.prog w base spare held m 2 [c2] = some y := by rw [← e2]; exact ⟨_, g2.trans (List.getElem?_eq_getElem (by simp_all))⟩
    obtain ⟨x2, hx2, _, hz2⟩ := DataW.trod_int Try.underlying2 hy2
    refine ⟨⟨x0, x1, x2⟩, ?_, hz0, hz1, wf64 hz2⟩
    simp only [List.cons.injEq, and_true] at hx0 hx1 hx2
    subst hx0 hx1 hx2
    rfl

theorem open_Grant {H : Type} {enc : TypeId × Value → H} {w : World} {base : Nat} {spare : Nat → Bool} {held : Bool} {r : Reach} {b0 : Nat} {v : Value} {d : DataW H} {p : List MemPlace} (hv : Value.okWide Try.prog w r b0 30 v)
    (h : DataW.Trod enc Try.prog w base spare held 30 v d p) : ∃ x : DGrant, v = .agg #[.string x.fRole, .string x.fObject, .int .i64 x.fAction] ∧ x.good := by
  obtain ⟨cs, rfl, hsz⟩ := WideShapes.okWide_struct Try.underlying30 hv
  obtain ⟨fuel, hf⟩ := h
  obtain ⟨x, hx, hg⟩ := el_Grant fuel _ _ hf
  refine ⟨x, ?_, hg⟩
  congr 1
  apply Array.toList_inj.1
  exact hx

set_option maxHeartbeats 400000 in
theorem l_szGrant (x : DGrant) (left : Int) (w : World) (hg : x.good) (h0 : 0 ≤ left) (h1 : left ≤ 1048576) :
    Calls Try.prog 18 #[.agg #[.string x.fRole, .string x.fObject, .int .i64 x.fAction], .int .i64 left] w (SzB left x.sz w) := by
  obtain ⟨g0, g1, g2⟩ := hg
  unfold maxLen at g0 g1
  clear g2
  by_cases c0 : left - x.fRole.size < 0
  · go_enter Try.func18, Try.ntmps18
    go_wp2
    go_ret
    exact SzB.neg (by (repeat (first | exact Below.refl _ _ | assumption | refine Below.drew ?_ | refine Below.alloc ?_ (by first | omega | (simp; done) | (simp; omega) | exact Below.size (by assumption)) _ | refine Below.setCell ?_ (by first | omega | (simp; done) | (simp; omega)) _)))
  · by_cases c1 : left - x.fRole.size - x.fObject.size < 0
    · go_enter Try.func18, Try.ntmps18
      go_wp2
      go_ret
      exact SzB.neg (by (repeat (first | exact Below.refl _ _ | assumption | refine Below.drew ?_ | refine Below.alloc ?_ (by first | omega | (simp; done) | (simp; omega) | exact Below.size (by assumption)) _ | refine Below.setCell ?_ (by first | omega | (simp; done) | (simp; omega)) _)))
    · go_enter Try.func18, Try.ntmps18
      go_wp2
      go_ret
      exact SzB.ok (by (repeat (first | exact Below.refl _ _ | assumption | refine Below.drew ?_ | refine Below.alloc ?_ (by first | omega | (simp; done) | (simp; omega) | exact Below.size (by assumption)) _ | refine Below.setCell ?_ (by first | omega | (simp; done) | (simp; omega)) _))) (by omega) (by unfold DGrant.sz; omega)

theorem l_toGrant (x : DGrant) (w : World) :
    Calls Try.prog 20 #[.agg #[.string x.fRole, .string x.fObject, .int .i64 x.fAction]] w fun e w' => e = .returned (.agg #[.string x.fRole, .string x.fObject, .int .i64 x.fAction]) ∧ Below w.heap.size w w' := by
  go_enter Try.func20, Try.ntmps20
  go_wp2
  exact bodyPost_ret (v := .agg #[.string x.fRole, .string x.fObject, .int .i64 x.fAction]) (by simp [results, Try.results20, go_sem]) rfl ⟨rfl, by (repeat (first | exact Below.refl _ _ | assumption | refine Below.drew ?_ | refine Below.alloc ?_ (by first | omega | (simp; done) | (simp; omega) | exact Below.size (by assumption)) _ | refine Below.setCell ?_ (by first | omega | (simp; done) | (simp; omega)) _))⟩

def mark1Grant (m : Nat) : DGrant := ⟨mt (m + 0), mt (m + 1), ((m + 2 : Nat) : Int)⟩
def markLGrant (n k : Nat) : List DGrant := (List.range n).map fun i => mark1Grant (k + 3 * i)
theorem markLGrant_get (n k i : Nat) (h : i < n) : (markLGrant n k)[i]? = some (mark1Grant (k + 3 * i)) := by simp [markLGrant, h]
theorem markLGrant_len (n k : Nat) : (markLGrant n k).length = n := by simp [markLGrant]

end Go.Proofs.Ytnjjipcjmmdniaa

