/- Where a name stands among goods in order; a good put, pieces taken: plain laws. -/
import Derived.Test.YtfogginmdglagaaGreatDoorRows
import Derived.Test.YtfogginmdglagaaGreatDoorGoodLaw
namespace Go.Proofs.YtfogginmdglagaaGreatDoor
set_option linter.unusedVariables false
set_option linter.unusedSimpArgs false
set_option linter.unusedSectionVars false
open Go.RowKit

def ltG (x : DGood) (id : ByteArray) : Bool := Op.bytesLess x.fId.toList id.toList
def eqG (x : DGood) (id : ByteArray) : Bool := x.fId.toList == id.toList
def posG (l : List DGood) (id : ByteArray) : Nat := (l.takeWhile fun x => ltG x id).length
def foundG (l : List DGood) (id : ByteArray) : Bool := match l[posG l id]? with | some x => eqG x id | none => false
theorem ltG_leS {x : DGood} {id : ByteArray} : ltG x id = true ↔ leS x.fId id ∧ x.fId ≠ id := by
  unfold ltG
  rw [ByteArray.toList_eq, ByteArray.toList_eq, bytesLess_eq, decide_eq_true_eq]
  constructor
  · intro h
    exact ⟨List.le_of_lt h, fun e => by rw [e] at h; exact List.lt_irrefl _ h⟩
  · rintro ⟨h, hne⟩
    rcases List.le_iff_lt_or_eq.1 h with h1 | h1
    · exact h1
    · exact absurd (ba_ext h1) hne
theorem eqG_iff {x : DGood} {id : ByteArray} : eqG x id = true ↔ x.fId = id := ⟨same_text, fun h => by unfold eqG; rw [h]; exact beq_self_eq_true _⟩
structure PartsG (l : List DGood) (id : ByteArray) (p : Nat) : Prop where
  le : p ≤ l.length
  lo : ∀ (i : Nat) (x : DGood), i < p → l[i]? = some x → ltG x id = true
  hi : ∀ (i : Nat) (x : DGood), p ≤ i → l[i]? = some x → ltG x id = false
theorem tw_le {α : Type} (f : α → Bool) : ∀ l : List α, (l.takeWhile f).length ≤ l.length
  | [] => Nat.le_refl _
  | a :: r => by
    rw [List.takeWhile_cons]
    split
    · rw [List.length_cons, List.length_cons]; exact Nat.succ_le_succ (tw_le f r)
    · exact Nat.zero_le _
theorem tw_get {α : Type} (f : α → Bool) : ∀ (l : List α) (i : Nat) (x : α), i < (l.takeWhile f).length → l[i]? = some x → f x = true
  | [], _, _, h, _ => by simp at h
  | a :: r, i, x, h, hx => by
    rw [List.takeWhile_cons] at h
    split at h
    · rename_i ha
      cases i with
      | zero => simp at hx; subst hx; exact ha
      | succ i => exact tw_get f r i x (by simpa using h) (by simpa using hx)
    · simp at h
theorem tw_stop {α : Type} (f : α → Bool) : ∀ (l : List α) (x : α), l[(l.takeWhile f).length]? = some x → f x = false
  | [], _, h => by simp at h
  | a :: r, x, h => by
    rw [List.takeWhile_cons] at h
    split at h
    · exact tw_stop f r x (by simpa using h)
    · rename_i ha
      simp at h
      subst h
      simpa using ha
theorem OkGoods.parts {l : List DGood} (h : OkGoods l) (id : ByteArray) : PartsG l id (posG l id) := by
  refine ⟨tw_le _ _, fun i x hi hx => tw_get _ l i x hi hx, fun i x hi hx => ?_⟩
  rcases hb : ltG x id with _ | _
  · rfl
  · exfalso
    have hlt := (List.getElem?_eq_some_iff.1 hx).1
    obtain ⟨y, hy⟩ : ∃ y, l[posG l id]? = some y := ⟨_, List.getElem?_eq_getElem (by omega)⟩
    have hs := tw_stop _ l y hy
    rcases Nat.eq_or_lt_of_le hi with h1 | h1
    · rw [h1, hx] at hy
      cases hy
      rw [hb] at hs
      cases hs
    · have h2 := AscBy.far (f := fun x : DGood => x.fId) h.asc (i - posG l id - 1) (posG l id) y x hy (by rw [show posG l id + (i - posG l id - 1 + 1) = i by omega]; exact hx)
      have h3 := ne_trans h2 (ltG_leS.1 hb)
      rw [ltG_leS.2 h3] at hs
      cases hs
theorem found_at {l : List DGood} {id : ByteArray} (h : foundG l id = true) : ∃ x, l[posG l id]? = some x ∧ x.fId = id := by
  unfold foundG at h
  split at h
  · rename_i x hx
    exact ⟨x, hx, eqG_iff.1 h⟩
  · cases h
theorem OkGoods.is_found {l : List DGood} (h : OkGoods l) {k : Nat} {x : DGood} (hx : l[k]? = some x) : posG l x.fId = k ∧ foundG l x.fId = true := by
  have hp := h.parts x.fId
  have hself : ltG x x.fId = false := by
    rcases hb : ltG x x.fId with _ | _
    · rfl
    · exact absurd rfl (ltG_leS.1 hb).2
  have h1 : posG l x.fId ≤ k := by
    rcases Nat.lt_or_ge k (posG l x.fId) with h1 | h1
    · have := hp.lo k x h1 hx
      rw [hself] at this
      cases this
    · exact h1
  have h2 : posG l x.fId = k := by
    rcases Nat.eq_or_lt_of_le h1 with h2 | h2
    · exact h2
    · exfalso
      have hlt := (List.getElem?_eq_some_iff.1 hx).1
      obtain ⟨y, hy⟩ : ∃ y, l[posG l x.fId]? = some y := ⟨_, List.getElem?_eq_getElem (by omega)⟩
      have h3 := AscBy.far (f := fun x : DGood => x.fId) h.asc (k - posG l x.fId - 1) (posG l x.fId) y x hy (by rw [show posG l x.fId + (k - posG l x.fId - 1 + 1) = k by omega]; exact hx)
      have h4 := hp.hi _ y (Nat.le_refl _) hy
      rw [ltG_leS.2 h3] at h4
      cases h4
  refine ⟨h2, ?_⟩
  unfold foundG
  rw [h2, hx]
  exact eqG_iff.2 rfl
theorem OkGoods.not_found {l : List DGood} {id : ByteArray} (h : OkGoods l) (hf : foundG l id = false) : ∀ x ∈ l, x.fId ≠ id := fun x hx e => by
  obtain ⟨k, hk⟩ := List.mem_iff_getElem?.1 hx
  have := (h.is_found hk).2
  rw [e, hf] at this
  cases this
end Go.Proofs.YtfogginmdglagaaGreatDoor
