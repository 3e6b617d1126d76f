/- The role with some right that has the fewest rights. -/
import Derived.Test.YtepegiklnhoobaaCardLaw
import Derived.Test.YtepegiklnhoobaaPutLaw
import Derived.Test.YtepegiklnhoobaaWhoM
namespace Go.Proofs.Ytepegiklnhoobaa
set_option linter.unusedVariables false
set_option linter.unusedSimpArgs false
set_option linter.unusedSectionVars false
open Go.RowKit Go.Maps

def bestS {α : Type} (f : α → Nat) (acc : Option α) (x : α) : Option α := match acc with
  | none => some x
  | some b => if f x < f b then some x else some b
def bestF {α : Type} (f : α → Nat) (l : List α) : Option α := l.foldl (bestS f) none
theorem best_snoc {α : Type} (f : α → Nat) (l : List α) (x : α) : bestF f (l ++ [x]) = bestS f (bestF f l) x := by
  unfold bestF
  rw [List.foldl_append]
  rfl
theorem best_less {α : Type} {f : α → Nat} {b x : α} (h : f x < f b) : bestS f (some b) x = some x := by
  unfold bestS
  simp [h]
theorem best_more {α : Type} {f : α → Nat} {b x : α} (h : ¬ f x < f b) : bestS f (some b) x = some b := by
  unfold bestS
  simp [h]
theorem best_fold_mem {α : Type} {f : α → Nat} : ∀ (l : List α) (acc : Option α) {b : α}, l.foldl (bestS f) acc = some b → b ∈ l ∨ acc = some b
  | [], _, _, h => .inr h
  | x :: r, acc, b, h => by
    rcases best_fold_mem r _ h with h1 | h1
    · exact .inl (by simp [h1])
    · unfold bestS at h1
      cases acc with
      | none => simp at h1; exact .inl (by simp [h1])
      | some a =>
        simp only at h1
        split at h1
        · simp at h1; exact .inl (by simp [h1])
        · exact .inr h1
theorem best_mem {α : Type} {f : α → Nat} {l : List α} {b : α} (h : bestF f l = some b) : b ∈ l := by
  rcases best_fold_mem l none h with h1 | h1
  · exact h1
  · cases h1

noncomputable def mayI (rl : List DRole) (l : List DGrant) (o : ByteArray) (act : Int) (k : Nat) : List Nat := (List.range k).filter fun i => mayB rl l i o act
theorem mayI_out {rl : List DRole} {l : List DGrant} {o : ByteArray} {act : Int} {k : Nat} (h : mayB rl l k o act = false) : mayI rl l o act (k + 1) = mayI rl l o act k := by
  unfold mayI
  rw [List.range_succ, List.filter_append]
  simp [h]
theorem mayI_in {rl : List DRole} {l : List DGrant} {o : ByteArray} {act : Int} {k : Nat} (h : mayB rl l k o act = true) : mayI rl l o act (k + 1) = mayI rl l o act k ++ [k] := by
  unfold mayI
  rw [List.range_succ, List.filter_append]
  simp [h]
theorem mayI_lt {rl : List DRole} {l : List DGrant} {o : ByteArray} {act : Int} {k i : Nat} (h : i ∈ mayI rl l o act k) : i < k := by
  unfold mayI at h
  exact List.mem_range.1 (List.mem_filter.1 h).1
noncomputable def cntR (rl : List DRole) (l : List DGrant) (i : Nat) : Nat := cardR (rightsT rl i l)
noncomputable def leastTo (rl : List DRole) (l : List DGrant) (o : ByteArray) (act : Int) (k : Nat) : Option Nat := bestF (cntR rl l) (mayI rl l o act k)
theorem least_out {rl : List DRole} {l : List DGrant} {o : ByteArray} {act : Int} {k : Nat} (h : mayB rl l k o act = false) : leastTo rl l o act (k + 1) = leastTo rl l o act k := by
  unfold leastTo
  rw [mayI_out h]
theorem least_in {rl : List DRole} {l : List DGrant} {o : ByteArray} {act : Int} {k : Nat} (h : mayB rl l k o act = true) : leastTo rl l o act (k + 1) = bestS (cntR rl l) (leastTo rl l o act k) k := by
  unfold leastTo
  rw [mayI_in h, best_snoc]
def nmR (rl : List DRole) (i : Nat) : ByteArray := match rl[i]? with
  | some x => x.name
  | none => ⟨#[]⟩
theorem nmR_get {rl : List DRole} {i : Nat} {x : DRole} (h : rl[i]? = some x) : nmR rl i = x.name := by
  unfold nmR
  rw [h]
def bsR (rl : List DRole) : Option Nat → ByteArray
  | none => ⟨#[]⟩
  | some i => nmR rl i
theorem who_names {rl : List DRole} {l : List DGrant} {o : ByteArray} {act : Int} (hgo : ∀ x ∈ l, okG rl x = true) (hin : inB act 1 3 = true) : ∀ k, k ≤ rl.length → undTo rl (whoM rl l [(o, act)]) k = (mayI rl l o act k).map (nmR rl)
  | 0, _ => by simp [undTo, mayI]
  | k + 1, hk => by
    have ih := who_names (o := o) hgo hin k (by omega)
    obtain ⟨x, hx⟩ : ∃ x, rl[k]? = some x := ⟨_, List.getElem?_eq_getElem (by omega)⟩
    have hw := whoM_get (l := l) (R := [(o, act)]) (rl := rl) (k := k) (by omega)
    rw [hasAll_one hgo, hin, Bool.true_and] at hw
    cases h : mayB rl l k o act
    · rw [h] at hw
      rw [undTo_out hw, mayI_out h, ih]
    · rw [h] at hw
      rw [undTo_in hx hw, mayI_in h, ih, List.map_append, List.map_cons, List.map_nil, nmR_get hx]
noncomputable def leastName (rl : List DRole) (l : List DGrant) (o : ByteArray) (act : Int) : ByteArray := if grantsB rl l && inB act 1 3 then bsR rl (leastTo rl l o act rl.length) else ⟨#[]⟩
noncomputable def leastCode (rl : List DRole) (l : List DGrant) (o : ByteArray) (act : Int) : Int := if grantsB rl l then (if inB act 1 3 then (match leastTo rl l o act rl.length with | none => 3 | some _ => 0) else 2) else 1
theorem least_bad {rl : List DRole} {l : List DGrant} {o : ByteArray} {act : Int} (h : grantsB rl l = false) : leastName rl l o act = ⟨#[]⟩ ∧ leastCode rl l o act = 1 := by
  unfold leastName leastCode
  rw [h]
  exact ⟨rfl, rfl⟩
theorem least_range {rl : List DRole} {l : List DGrant} {o : ByteArray} {act : Int} (h : grantsB rl l = true) (h2 : inB act 1 3 = false) : leastName rl l o act = ⟨#[]⟩ ∧ leastCode rl l o act = 2 := by
  unfold leastName leastCode
  rw [h, h2]
  exact ⟨rfl, rfl⟩
theorem least_none {rl : List DRole} {l : List DGrant} {o : ByteArray} {act : Int} (h : grantsB rl l = true) (h2 : inB act 1 3 = true) (h3 : leastTo rl l o act rl.length = none) : leastName rl l o act = ⟨#[]⟩ ∧ leastCode rl l o act = 3 := by
  unfold leastName leastCode
  rw [h, h2, h3]
  exact ⟨rfl, rfl⟩
theorem least_some {rl : List DRole} {l : List DGrant} {o : ByteArray} {act : Int} {i : Nat} {x : DRole} (h : grantsB rl l = true) (h2 : inB act 1 3 = true) (h3 : leastTo rl l o act rl.length = some i) (hx : rl[i]? = some x) : leastName rl l o act = x.name ∧ leastCode rl l o act = 0 := by
  unfold leastName leastCode
  rw [h, h2, h3]
  exact ⟨nmR_get hx, rfl⟩
theorem least_lt {rl : List DRole} {l : List DGrant} {o : ByteArray} {act : Int} {k i : Nat} (h : leastTo rl l o act k = some i) : i < k := mayI_lt (best_mem h)
theorem name_full {s : ByteArray} (h : nameB s = true) : (s.toList == []) = false := by
  unfold nameB at h
  rw [Bool.and_eq_true, Bool.and_eq_true] at h
  have h2 := h.2.1
  cases hs : s.toList with
  | nil => rw [hs] at h2; simp at h2
  | cons a r => rfl
end Go.Proofs.Ytepegiklnhoobaa
