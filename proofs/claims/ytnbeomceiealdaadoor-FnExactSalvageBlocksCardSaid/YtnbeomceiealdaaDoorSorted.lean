/- Blocks in order: plain laws. -/
import Derived.Test.YtnbeomceiealdaaDoorRows
import Derived.Test.YtnbeomceiealdaaDoorBlocks
namespace Go.Proofs.YtnbeomceiealdaaDoor
set_option linter.unusedVariables false
set_option linter.unusedSimpArgs false
set_option linter.unusedSectionVars false
open Go.RowKit

/-- a binary search's answer: p parts those before the key from the others -/
structure PartsAt (l : List DBlock) (key : DBlock) (p : Nat) : Prop where
  le : p ≤ l.length
  lo : ∀ i x, i < p → l[i]? = some x → cmpBl x key < 0
  hi : ∀ i x, p ≤ i → l[i]? = some x → ¬ cmpBl x key < 0
def foundB (l : List DBlock) (key : DBlock) (p : Nat) : Bool := match l[p]? with | some x => decide (cmpBl x key = 0) | none => false


theorem cmpBl_zero (x y : DBlock) : cmpBl x y = 0 ↔ x.fKind = y.fKind ∧ x.fName = y.fName := by
  unfold cmpBl
  have h1 := cmpS_zero x.fKind y.fKind
  have h2 := cmpS_zero x.fName y.fName
  by_cases h : cmpS x.fKind y.fKind = 0
  · rw [if_neg (by simpa using h), h2]
    simp [h1.1 h]
  · rw [if_pos h]
    exact ⟨fun e => absurd e h, fun e => absurd (h1.2 e.1) h⟩
theorem cmpBl_trans {x y z : DBlock} (h : cmpBl x y < 0) (h' : cmpBl y z < 0) : cmpBl x z < 0 := by
  unfold cmpBl at h h' ⊢
  by_cases e1 : cmpS x.fKind y.fKind = 0
  · rw [if_neg (by simpa using e1)] at h
    have q1 := (cmpS_zero _ _).1 e1
    rw [q1]
    by_cases e2 : cmpS y.fKind z.fKind = 0
    · rw [if_neg (by simpa using e2)] at h' ⊢
      exact cmpS_trans h h'
    · rw [if_pos e2] at h' ⊢
      exact h'
  · rw [if_pos e1] at h
    by_cases e2 : cmpS y.fKind z.fKind = 0
    · have q2 := (cmpS_zero _ _).1 e2
      rw [← q2, if_pos e1]
      exact h
    · rw [if_pos e2] at h'
      have h3 := cmpS_trans h h'
      rw [if_pos (by omega)]
      exact h3
theorem cmpBl_left {x x' z : DBlock} (h : cmpBl x x' = 0) : cmpBl x z = cmpBl x' z := by
  have := (cmpBl_zero _ _).1 h
  unfold cmpBl
  rw [this.1, this.2]
theorem cmpBl_right {x z z' : DBlock} (h : cmpBl z z' = 0) : cmpBl x z = cmpBl x z' := by
  have := (cmpBl_zero _ _).1 h
  unfold cmpBl
  rw [this.1, this.2]
/-- what valid blocks are good for -/
structure SortedBl (l : List DBlock) : Prop where
  ok : ∀ x ∈ l, blockB x = true
  lt : ∀ (i j : Nat) (x y : DBlock), i < j → l[i]? = some x → l[j]? = some y → cmpBl x y < 0
theorem sorted_of_blocks {l : List DBlock} (h : blocksB l = true) : SortedBl l := by
  unfold blocksB at h
  rw [Bool.and_eq_true] at h
  obtain ⟨h1, h2, _⟩ := chain_sorted (fun x y z a b => by simp only [decide_eq_true_eq] at a b ⊢; exact cmpBl_trans a b) l none h.1
  exact ⟨h1, fun i j x y hij hx hy => by simpa using pair_lt h2 hij hx hy⟩
def posOf (l : List DBlock) (key : DBlock) : Nat := (l.takeWhile fun x => decide (cmpBl x key < 0)).length
theorem SortedBl.parts {l : List DBlock} (h : SortedBl l) (key : DBlock) : PartsAt l key (posOf l key) := by
  refine ⟨takeWhile_le _ _, fun i x hi hx => by simpa using takeWhile_get _ l i x hi hx, fun i x hi hx hlt => ?_⟩
  obtain ⟨y, hy⟩ : ∃ y, l[posOf l key]? = some y := ⟨_, List.getElem?_eq_getElem (Nat.lt_of_le_of_lt hi (List.getElem?_eq_some_iff.1 hx).1)⟩
  have hns : ¬ cmpBl y key < 0 := by simpa using takeWhile_stop _ l y hy
  rcases Nat.lt_or_ge (posOf l key) i with h1 | h1
  · exact hns (cmpBl_trans (h.lt _ _ _ _ h1 hy hx) hlt)
  · have : i = posOf l key := Nat.le_antisymm h1 hi
    subst this
    rw [hx] at hy
    cases hy
    exact hns hlt
theorem SortedBl.at {l : List DBlock} (h : SortedBl l) {key x : DBlock} {k : Nat} (hx : l[k]? = some x) (h0 : cmpBl x key = 0) : posOf l key = k ∧ foundB l key (posOf l key) = true := by
  have hp := h.parts key
  have h1 : posOf l key ≤ k := by
    rcases Nat.lt_or_ge k (posOf l key) with h1 | h1
    · have := hp.lo k x h1 hx; omega
    · exact h1
  have h2 : posOf l key = k := by
    rcases Nat.lt_or_ge (posOf l key) k with h2 | h2
    · obtain ⟨y, hy⟩ : ∃ y, l[posOf l key]? = some y := ⟨_, List.getElem?_eq_getElem (Nat.lt_trans h2 (List.getElem?_eq_some_iff.1 hx).1)⟩
      have h3 := h.lt _ _ _ _ h2 hy hx
      rw [cmpBl_right h0] at h3
      exact absurd h3 (hp.hi _ y (Nat.le_refl _) hy)
    · omega
  exact ⟨h2, by rw [h2]; unfold foundB; rw [hx]; simpa using h0⟩
def keyOf (kd nm : ByteArray) : DBlock := ⟨kd, nm, ⟨#[]⟩⟩
def isAt (x : DBlock) (kd nm : ByteArray) : Bool := decide (cmpBl x (keyOf kd nm) = 0)
theorem isAt_eq (x : DBlock) (kd nm : ByteArray) : isAt x kd nm = ((x.fKind.toList == kd.toList) && (x.fName.toList == nm.toList)) := by
  unfold isAt
  rw [eqS_iff, eqS_iff, ← Bool.decide_and]
  exact decide_eq_decide.2 (cmpBl_zero x (keyOf kd nm))
/-- the index of a block, or -1 -/
def findIx (l : List DBlock) (kd nm : ByteArray) : Int := if foundB l (keyOf kd nm) (posOf l (keyOf kd nm)) then (posOf l (keyOf kd nm) : Int) else -1
theorem findIx_at {l : List DBlock} (h : SortedBl l) {kd nm : ByteArray} {x : DBlock} {k : Nat} (hx : l[k]? = some x) (h0 : isAt x kd nm = true) : findIx l kd nm = k := by
  obtain ⟨h1, h2⟩ := h.at hx (by simpa [isAt] using h0)
  unfold findIx
  rw [if_pos h2, h1]
theorem findIx_none {l : List DBlock} {kd nm : ByteArray} (hn : ∀ (i : Nat) (x : DBlock), l[i]? = some x → isAt x kd nm = false) : findIx l kd nm = -1 := by
  unfold findIx
  rw [if_neg]
  unfold foundB
  cases hx : l[posOf l (keyOf kd nm)]? with
  | none => simp
  | some x => have := hn _ x hx; unfold isAt at this; dsimp only; rw [this]; simp


end Go.Proofs.YtnbeomceiealdaaDoor
