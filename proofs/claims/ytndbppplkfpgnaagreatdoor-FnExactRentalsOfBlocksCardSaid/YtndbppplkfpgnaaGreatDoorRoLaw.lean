/- The rentals of blocks: plain law. -/
import Derived.Test.YtndbppplkfpgnaaGreatDoorRows
import Derived.Test.YtndbppplkfpgnaaGreatDoorRRental
import Derived.Test.YtndbppplkfpgnaaGreatDoorBlocks
namespace Go.Proofs.YtndbppplkfpgnaaGreatDoor
set_option linter.unusedVariables false
set_option linter.unusedSimpArgs false
set_option linter.unusedSectionVars false
open Go.RowKit

def rentKd : ByteArray := ⟨#[114, 101, 110, 116, 97, 108]⟩
def zBlock : DBlock := ⟨⟨#[]⟩, ⟨#[]⟩, ⟨#[]⟩⟩
def roT (l : List DBlock) : Nat → Sum Int (List DRental)
  | 0 => .inr []
  | k + 1 => match roT l k with
    | .inl e => .inl e
    | .inr r => if (l.getD k zBlock).fKind = rentKd then (match rentalO (l.getD k zBlock).fText with | none => .inl 9 | some x => if x.fId = (l.getD k zBlock).fName then .inr (r ++ [x]) else .inl 6) else .inr r
theorem gd_get {l : List DBlock} {i : Nat} {x : DBlock} (h : l[i]? = some x) : l.getD i zBlock = x := by rw [List.getD_eq_getElem?_getD, h]; rfl
theorem ro_other {l : List DBlock} {k : Nat} {x : DBlock} {r : List DRental} (hx : l[k]? = some x) (h : roT l k = .inr r) (hk : x.fKind ≠ rentKd) : roT l (k + 1) = .inr r := by
  rw [roT, h, gd_get hx]
  simp only [hk, if_false]
theorem ro_none {l : List DBlock} {k : Nat} {x : DBlock} {r : List DRental} (hx : l[k]? = some x) (h : roT l k = .inr r) (hk : x.fKind = rentKd) (ho : rentalO x.fText = none) : roT l (k + 1) = .inl 9 := by
  rw [roT, h, gd_get hx]
  simp only [hk, if_true, ho]
theorem ro_state {l : List DBlock} {k : Nat} {x : DBlock} {r : List DRental} {y : DRental} (hx : l[k]? = some x) (h : roT l k = .inr r) (hk : x.fKind = rentKd) (ho : rentalO x.fText = some y) (hn : y.fId ≠ x.fName) : roT l (k + 1) = .inl 6 := by
  rw [roT, h, gd_get hx]
  simp only [hk, if_true, ho, hn, if_false]
theorem ro_in {l : List DBlock} {k : Nat} {x : DBlock} {r : List DRental} {y : DRental} (hx : l[k]? = some x) (h : roT l k = .inr r) (hk : x.fKind = rentKd) (ho : rentalO x.fText = some y) (hn : y.fId = x.fName) : roT l (k + 1) = .inr (r ++ [y]) := by
  rw [roT, h, gd_get hx]
  simp only [hk, if_true, ho, hn]
theorem ro_mono {l : List DBlock} {k : Nat} {e : Int} (h : roT l k = .inl e) : ∀ j, roT l (k + j) = .inl e
  | 0 => h
  | j + 1 => by rw [← Nat.add_assoc, roT, ro_mono h j]
theorem ro_at {l : List DBlock} {k m : Nat} {e : Int} (h : roT l k = .inl e) (hk : k ≤ m) : roT l m = .inl e := by
  have := ro_mono h (m - k)
  rwa [show k + (m - k) = m by omega] at this
theorem ro_len {l : List DBlock} : ∀ {k : Nat} {r : List DRental}, roT l k = .inr r → r.length ≤ k
  | 0, r, h => by rw [roT] at h; cases h; simp
  | k + 1, r, h => by
    rw [roT] at h
    cases hk : roT l k with
    | inl e => rw [hk] at h; cases h
    | inr q =>
      have := ro_len hk
      rw [hk] at h
      simp only at h
      split at h
      · split at h
        · cases h
        · split at h
          · cases h; simp; omega
          · cases h
      · cases h; omega
def roL (l : List DBlock) : List DRental := if blocksB l then (match roT l l.length with | .inl _ => [] | .inr r => if (r.length : Int) ≤ 12 then r else []) else []
def roC (l : List DBlock) : Int := if blocksB l then (match roT l l.length with | .inl e => e | .inr r => if (r.length : Int) ≤ 12 then 0 else 5) else 1
theorem ro_bad {l : List DBlock} (h : blocksB l = false) : roL l = [] ∧ roC l = 1 := by unfold roL roC; rw [h]; exact ⟨rfl, rfl⟩
theorem ro_err {l : List DBlock} {e : Int} (h : blocksB l = true) (hl : roT l l.length = .inl e) : roL l = [] ∧ roC l = e := by unfold roL roC; rw [h, hl]; exact ⟨rfl, rfl⟩
theorem ro_full {l : List DBlock} {r : List DRental} (h : blocksB l = true) (hl : roT l l.length = .inr r) (hn : ¬ (r.length : Int) ≤ 12) : roL l = [] ∧ roC l = 5 := by
  unfold roL roC
  rw [h, hl]
  simp only [if_true, hn, if_false]
  exact ⟨trivial, trivial⟩
theorem ro_good {l : List DBlock} {r : List DRental} (h : blocksB l = true) (hl : roT l l.length = .inr r) (hn : (r.length : Int) ≤ 12) : roL l = r ∧ roC l = 0 := by
  unfold roL roC
  rw [h, hl]
  simp only [if_true, hn]
  exact ⟨trivial, trivial⟩
theorem rentalV_some {s : ByteArray} {y : DRental} (h : rentalO s = some y) : rentalV s = y ∧ rentalOk s = true := by unfold rentalV rentalOk; rw [h]; exact ⟨rfl, rfl⟩
theorem rentalOk_none {s : ByteArray} (h : rentalO s = none) : rentalOk s = false := by unfold rentalOk; rw [h]; rfl
end Go.Proofs.YtndbppplkfpgnaaGreatDoor
