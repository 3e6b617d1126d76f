/- What a role may do, in plain words. -/
import Derived.Test.YtepegiklnhoobaaRows
import Derived.Test.YtepegiklnhoobaaGOrd
import Derived.Test.YtepegiklnhoobaaRolesS
namespace Go.Proofs.Ytepegiklnhoobaa
set_option linter.unusedVariables false
set_option linter.unusedSimpArgs false
set_option linter.unusedSectionVars false
open Go.RowKit

/-- whether the role at place a is the one named, or stands over it -/
noncomputable def holdsR (rl : List DRole) (a : Nat) (r : ByteArray) : Bool := decide (fnd rl r = a) || isIn (undN rl a) r
noncomputable def mayB (rl : List DRole) (l : List DGrant) (a : Nat) (o : ByteArray) (act : Int) : Bool := l.any fun x => holdsR rl a x.fRole && (decide (x.fObject = o) && decide (act ≤ x.fAction))
def actsOf (x : DGrant) (m : Nat) : List (ByteArray × Int) := (List.range m).map fun (i : Nat) => (x.fObject, (i : Int) + 1)
noncomputable def rightsT (rl : List DRole) (a : Nat) (l : List DGrant) : List (ByteArray × Int) := l.flatMap fun x => if holdsR rl a x.fRole then actsOf x x.fAction.toNat else []
theorem actsOf_succ (x : DGrant) (m : Nat) : actsOf x (m + 1) = actsOf x m ++ [(x.fObject, (m : Int) + 1)] := by
  unfold actsOf
  rw [List.range_succ, List.map_append]
  rfl
theorem rightsT_out {rl : List DRole} {a k : Nat} {l : List DGrant} {x : DGrant} (hx : l[k]? = some x) (h : holdsR rl a x.fRole = false) : rightsT rl a (l.take (k + 1)) = rightsT rl a (l.take k) := by
  unfold rightsT
  rw [take_of_get hx, List.flatMap_append]
  simp [h]
theorem rightsT_in {rl : List DRole} {a k : Nat} {l : List DGrant} {x : DGrant} (hx : l[k]? = some x) (h : holdsR rl a x.fRole = true) : rightsT rl a (l.take (k + 1)) = rightsT rl a (l.take k) ++ actsOf x x.fAction.toNat := by
  unfold rightsT
  rw [take_of_get hx, List.flatMap_append]
  simp [h]
theorem rights_mem {rl : List DRole} {a : Nat} {l : List DGrant} {o : ByteArray} {act : Int} (h1 : 1 ≤ act) : (o, act) ∈ rightsT rl a l ↔ mayB rl l a o act = true := by
  unfold rightsT mayB
  rw [List.mem_flatMap, List.any_eq_true]
  constructor
  · rintro ⟨x, hx, hm⟩
    rcases h : holdsR rl a x.fRole with _ | _
    · rw [h] at hm; simp at hm
    · rw [h] at hm
      simp only [if_true, actsOf, List.mem_map, List.mem_range, Prod.mk.injEq] at hm
      obtain ⟨i, hi, e1, e2⟩ := hm
      refine ⟨x, hx, ?_⟩
      rw [h, Bool.true_and, Bool.and_eq_true, decide_eq_true_eq, decide_eq_true_eq]
      exact ⟨e1, by omega⟩
  · rintro ⟨x, hx, hm⟩
    rw [Bool.and_eq_true, Bool.and_eq_true, decide_eq_true_eq, decide_eq_true_eq] at hm
    obtain ⟨e0, e1, e2⟩ := hm
    refine ⟨x, hx, ?_⟩
    rw [e0]
    simp only [if_true, actsOf, List.mem_map, List.mem_range, Prod.mk.injEq]
    exact ⟨(act - 1).toNat, by omega, e1, by omega⟩
theorem rights_pos {rl : List DRole} {a : Nat} {l : List DGrant} {p : ByteArray × Int} (h : p ∈ rightsT rl a l) : 1 ≤ p.2 ∧ ∃ x ∈ l, x.fObject = p.1 ∧ p.2 ≤ x.fAction := by
  unfold rightsT at h
  obtain ⟨x, hx, hm⟩ := List.mem_flatMap.1 h
  split at hm
  · simp only [actsOf, List.mem_map, List.mem_range] at hm
    obtain ⟨i, hi, rfl⟩ := hm
    exact ⟨by simp; omega, x, hx, rfl, by simp; omega⟩
  · cases hm
/-- the names that the program collects -/
theorem names_hold {rl : List DRole} {a : Nat} {nm r : ByteArray} (ha : fnd rl nm = a) (hr : 0 ≤ fnd rl r) : isIn (undN rl a ++ [nm]) r = holdsR rl a r := by
  unfold holdsR
  rw [Bool.eq_iff_iff, isIn_true, List.mem_append, List.mem_singleton, Bool.or_eq_true, decide_eq_true_eq, isIn_true]
  constructor
  · rintro (h | rfl)
    · exact .inr h
    · exact .inl ha
  · rintro (h | h)
    · right
      obtain ⟨x, hx, hxn⟩ := fnd_some ha
      obtain ⟨y, hy, hyn⟩ := fnd_some h
      rw [hx] at hy
      cases hy
      rw [← hyn, hxn]
    · exact .inl h
/-- the reference's test by marks -/
theorem holds_mark {rl : List DRole} {a k : Nat} {r : ByteArray} {bv : Bool} (hi : NameInj rl) (hk : fnd rl r = k) (hbv : (UndB rl a)[k]? = some bv) : holdsR rl a r = (decide (k = a) || bv) := by
  obtain ⟨x, hx, rfl⟩ := fnd_some hk
  have hlt := (List.getElem?_eq_some_iff.1 hx).1
  unfold holdsR
  rw [hk]
  have e : decide ((k : Int) = (a : Int)) = decide (k = a) := decide_eq_decide.2 (by omega)
  rw [e]
  congr 1
  rw [Bool.eq_iff_iff, isIn_true, undN_iff hi hx]
  cases bv
  · have := (UndB_not hlt).1 hbv
    simp [this]
  · have := (UndB_get hlt).1 hbv
    simp [this]
theorem may_at {rl : List DRole} {l : List DGrant} {a k : Nat} {o : ByteArray} {act : Int} {x : DGrant} (hx : l[k]? = some x) (h : (holdsR rl a x.fRole && (decide (x.fObject = o) && decide (act ≤ x.fAction))) = true) : mayB rl l a o act = true := by
  unfold mayB
  rw [List.any_eq_true]
  exact ⟨x, List.mem_of_getElem? hx, h⟩
theorem may_none {rl : List DRole} {l : List DGrant} {a : Nat} {o : ByteArray} {act : Int} (h : ∀ (j : Nat) x, l[j]? = some x → (holdsR rl a x.fRole && (decide (x.fObject = o) && decide (act ≤ x.fAction))) = false) : mayB rl l a o act = false := by
  unfold mayB
  rw [List.any_eq_false]
  intro x hx
  obtain ⟨j, hj⟩ := List.mem_iff_getElem?.1 hx
  rw [h j x hj]
  simp
end Go.Proofs.Ytepegiklnhoobaa
