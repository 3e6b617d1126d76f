/- Grants in order: plain laws. -/
import Derived.Test.YtepegiklnhoobaaRows
import Derived.Test.YtepegiklnhoobaaOrd
import Derived.Test.YtepegiklnhoobaaBasic
import Derived.Test.YtepegiklnhoobaaNames
import Derived.Test.YtepegiklnhoobaaCGrant
import Derived.Test.YtepegiklnhoobaaRoleLaw
import Derived.Test.YtepegiklnhoobaaRolesS
namespace Go.Proofs.Ytepegiklnhoobaa
set_option linter.unusedVariables false
set_option linter.unusedSimpArgs false
set_option linter.unusedSectionVars false
open Go.RowKit

def cmpGr (x y : DGrant) : Int := if cmpS x.fRole y.fRole ≠ 0 then cmpS x.fRole y.fRole else if cmpS x.fObject y.fObject ≠ 0 then cmpS x.fObject y.fObject else x.fAction - y.fAction
theorem grant_ext {x y : DGrant} (h1 : x.fRole = y.fRole) (h2 : x.fObject = y.fObject) (h3 : x.fAction = y.fAction) : x = y := by
  cases x; cases y
  simp only at h1 h2 h3
  rw [h1, h2, h3]
theorem cmpGr_zero (x y : DGrant) : cmpGr x y = 0 ↔ x = y := by
  unfold cmpGr
  have h1 := cmpS_zero x.fRole y.fRole
  have h2 := cmpS_zero x.fObject y.fObject
  by_cases h : cmpS x.fRole y.fRole = 0
  · rw [if_neg (by simpa using h)]
    by_cases h' : cmpS x.fObject y.fObject = 0
    · rw [if_neg (by simpa using h')]
      exact ⟨fun e => grant_ext (h1.1 h) (h2.1 h') (by omega), fun e => by rw [e]; omega⟩
    · rw [if_pos h']
      exact ⟨fun e => absurd e h', fun e => absurd (h2.2 (by rw [e])) h'⟩
  · rw [if_pos h]
    exact ⟨fun e => absurd e h, fun e => absurd (h1.2 (by rw [e])) h⟩
theorem cmpGr_trans {x y z : DGrant} (h : cmpGr x y < 0) (h' : cmpGr y z < 0) : cmpGr x z < 0 := by
  unfold cmpGr at h h' ⊢
  by_cases e1 : cmpS x.fRole y.fRole = 0
  · rw [if_neg (by simpa using e1)] at h
    have q1 := (cmpS_zero _ _).1 e1
    rw [q1]
    by_cases e2 : cmpS y.fRole z.fRole = 0
    · rw [if_neg (by simpa using e2)] at h' ⊢
      by_cases e3 : cmpS x.fObject y.fObject = 0
      · rw [if_neg (by simpa using e3)] at h
        have q3 := (cmpS_zero _ _).1 e3
        rw [q3]
        by_cases e4 : cmpS y.fObject z.fObject = 0
        · rw [if_neg (by simpa using e4)] at h' ⊢
          omega
        · rw [if_pos e4] at h' ⊢
          exact h'
      · rw [if_pos e3] at h
        by_cases e4 : cmpS y.fObject z.fObject = 0
        · have q4 := (cmpS_zero _ _).1 e4
          rw [← q4, if_pos e3]
          exact h
        · rw [if_pos e4] at h'
          have h3 := cmpS_trans h h'
          rw [if_pos (by omega)]
          exact h3
    · rw [if_pos e2] at h' ⊢
      exact h'
  · rw [if_pos e1] at h
    by_cases e2 : cmpS y.fRole z.fRole = 0
    · have q2 := (cmpS_zero _ _).1 e2
      rw [← q2, if_pos e1]
      exact h
    · rw [if_pos e2] at h'
      have h3 := cmpS_trans h h'
      rw [if_pos (by omega)]
      exact h3
theorem cmpGr_irrefl (x : DGrant) : ¬ cmpGr x x < 0 := by have := (cmpGr_zero x x).2 rfl; omega
/-- the reference's order is the program's -/
theorem beforeG_eq (x y : DGrant) : (if decide (x.fRole = y.fRole) then (if decide (x.fObject = y.fObject) then decide (x.fAction < y.fAction) else ltS x.fObject y.fObject) else ltS x.fRole y.fRole) = decide (cmpGr x y < 0) := by
  unfold cmpGr
  have h1 := cmpS_zero x.fRole y.fRole
  have h2 := cmpS_zero x.fObject y.fObject
  by_cases h : x.fRole = y.fRole
  · rw [if_pos (by simpa using h), if_neg (show ¬ cmpS x.fRole y.fRole ≠ 0 by simpa using h1.2 h)]
    by_cases h' : x.fObject = y.fObject
    · rw [if_pos (by simpa using h'), if_neg (show ¬ cmpS x.fObject y.fObject ≠ 0 by simpa using h2.2 h')]
      exact decide_eq_decide.2 (by omega)
    · rw [if_neg (by simpa using h'), if_pos (fun e => h' (h2.1 e)), ltS_cmp]
  · rw [if_neg (by simpa using h), if_pos (fun e => h (h1.1 e)), ltS_cmp]

/-- a grant is one for the roles -/
def okG (rl : List DRole) (x : DGrant) : Bool := decide (0 ≤ fnd rl x.fRole) && (nameB x.fObject && inB x.fAction 1 3)
def chainG (rl : List DRole) (l : List DGrant) : Bool := chainB (okG rl) (fun x y => decide (cmpGr x y < 0)) none l
noncomputable def grantsB (rl : List DRole) (l : List DGrant) : Bool := rolesB rl && (decide (l.length ≤ 48) && chainG rl l)
structure SortedGr (rl : List DRole) (l : List DGrant) : Prop where
  roles : rolesB rl = true
  len : l.length ≤ 48
  ok : ∀ x ∈ l, okG rl x = true
  lt : ∀ (i j : Nat) (x y : DGrant), i < j → l[i]? = some x → l[j]? = some y → cmpGr x y < 0
theorem sorted_of_grants {rl : List DRole} {l : List DGrant} (h : grantsB rl l = true) : SortedGr rl l := by
  unfold grantsB chainG at h
  rw [Bool.and_eq_true, Bool.and_eq_true, decide_eq_true_eq] at h
  obtain ⟨h0, h1, h2⟩ := h
  obtain ⟨h3, h4, _⟩ := chain_sorted (fun x y z a b => by simp only [decide_eq_true_eq] at a b ⊢; exact cmpGr_trans a b) l none h2
  exact ⟨h0, h1, h3, fun i j x y hij hx hy => by simpa using pair_lt h4 hij hx hy⟩
theorem grants_small {rl : List DRole} {l : List DGrant} (h : SortedGr rl l) {x : DGrant} (hx : x ∈ l) : 1 ≤ x.fAction ∧ x.fAction ≤ 3 := by
  have := h.ok x hx
  unfold okG at this
  rw [Bool.and_eq_true, Bool.and_eq_true] at this
  exact inB_spec this.2.2

/-- a binary search's answer: p parts those before the key from the others -/
structure PartsG (l : List DGrant) (key : DGrant) (p : Nat) : Prop where
  le : p ≤ l.length
  lo : ∀ i x, i < p → l[i]? = some x → cmpGr x key < 0
  hi : ∀ i x, p ≤ i → l[i]? = some x → ¬ cmpGr x key < 0
def foundG (l : List DGrant) (key : DGrant) (p : Nat) : Bool := match l[p]? with | some x => decide (cmpGr x key = 0) | none => false
def posG (l : List DGrant) (key : DGrant) : Nat := (l.takeWhile fun x => decide (cmpGr x key < 0)).length
theorem SortedGr.parts {rl : List DRole} {l : List DGrant} (h : SortedGr rl l) (key : DGrant) : PartsG l key (posG l key) := by
  refine ⟨takeWhile_le _ _, fun i x hi hx => by simpa using takeWhile_get _ l i x hi hx, fun i x hi hx hlt => ?_⟩
  obtain ⟨y, hy⟩ : ∃ y, l[posG l key]? = some y := ⟨_, List.getElem?_eq_getElem (Nat.lt_of_le_of_lt hi (List.getElem?_eq_some_iff.1 hx).1)⟩
  have hns : ¬ cmpGr y key < 0 := by simpa using takeWhile_stop _ l y hy
  rcases Nat.lt_or_ge (posG l key) i with h1 | h1
  · exact hns (cmpGr_trans (h.lt _ _ _ _ h1 hy hx) hlt)
  · have : i = posG l key := Nat.le_antisymm h1 hi
    subst this
    rw [hx] at hy
    cases hy
    exact hns hlt
/-- the place of a grant among sorted ones, and whether it is there -/
theorem posG_at {l : List DGrant} {key : DGrant} {k : Nat} (hlo : ∀ (i : Nat) x, i < k → l[i]? = some x → cmpGr x key < 0) (hhi : ∀ x, l[k]? = some x → ¬ cmpGr x key < 0) (hk : k ≤ l.length) : posG l key = k := by
  have h1 : posG l key ≤ l.length := takeWhile_le _ _
  rcases Nat.lt_trichotomy (posG l key) k with h | h | h
  · obtain ⟨y, hy⟩ : ∃ y, l[posG l key]? = some y := ⟨_, List.getElem?_eq_getElem (by omega)⟩
    have hns : ¬ cmpGr y key < 0 := by simpa using takeWhile_stop _ l y hy
    exact absurd (hlo _ y h hy) hns
  · exact h
  · obtain ⟨y, hy⟩ : ∃ y, l[k]? = some y := ⟨_, List.getElem?_eq_getElem (by omega)⟩
    have : cmpGr y key < 0 := by simpa using takeWhile_get _ l k y h hy
    exact absurd this (hhi y hy)
end Go.Proofs.Ytepegiklnhoobaa
