/- Which grant a text holds, in plain words. -/
import Derived.Test.YtbblkmnafdmcdaaDoorRows
import Derived.Test.YtbblkmnafdmcdaaDoorWords3
import Derived.Test.YtbblkmnafdmcdaaDoorGrantText
namespace Go.Proofs.YtbblkmnafdmcdaaDoor
set_option linter.unusedVariables false
set_option linter.unusedSimpArgs false
set_option linter.unusedSectionVars false
open Go.RowKit

def actTo (b : ByteArray) : Nat → Int
  | 0 => 0
  | k + 1 => if actionName (k : Int) = b then (k : Int) else actTo b k
def actOf (b : ByteArray) : Int := if actionName 3 = b then 3 else if actionName 2 = b then 2 else if actionName 1 = b then 1 else 0
def grantO (s : ByteArray) : Option DGrant := match cutsB 32 s with
  | [a, b, c] => if grantOkB ⟨a, c, actOf b⟩ then some ⟨a, c, actOf b⟩ else none
  | _ => none
def grantV (s : ByteArray) : DGrant := (grantO s).getD ⟨⟨#[]⟩, ⟨#[]⟩, 0⟩
def grantGood (s : ByteArray) : Bool := (grantO s).isSome
theorem grantO_three {s a b c : ByteArray} (h : cutsB 32 s = [a, b, c]) : grantO s = if grantOkB ⟨a, c, actOf b⟩ then some ⟨a, c, actOf b⟩ else none := by unfold grantO; rw [h]
theorem grantO_not {s : ByteArray} (h : (cutsB 32 s).length ≠ 3) : grantO s = none := by
  unfold grantO
  split
  · rename_i h1; rw [h1] at h; exact absurd rfl h
  · rfl
theorem act_range {b : ByteArray} (h : inB (actOf b) 1 3 = true) : actionName (actOf b) = b ∧ (actOf b = 1 ∨ actOf b = 2 ∨ actOf b = 3) := by
  unfold actOf at h ⊢
  by_cases h3 : actionName 3 = b
  · rw [if_pos h3]; exact ⟨h3, .inr (.inr rfl)⟩
  · rw [if_neg h3] at h ⊢
    by_cases h2 : actionName 2 = b
    · rw [if_pos h2]; exact ⟨h2, .inr (.inl rfl)⟩
    · rw [if_neg h2] at h ⊢
      by_cases h1 : actionName 1 = b
      · rw [if_pos h1]; exact ⟨h1, .inl rfl⟩
      · rw [if_neg h1] at h; exact absurd h (by decide)
theorem act_name {k : Int} (h : k = 1 ∨ k = 2 ∨ k = 3) : actOf (actionName k) = k ∧ (32 : UInt8) ∉ (actionName k).data.toList ∧ (actionName k).data.toList ≠ [] := by
  rcases h with rfl | rfl | rfl <;> decide
theorem grant_words {s : ByteArray} {y : DGrant} (h : grantO s = some y) :
    wordsB s = [y.fRole, actionName y.fAction, y.fObject] ∧ cutsB 32 s = [y.fRole, actionName y.fAction, y.fObject] ∧ grantOkB y = true ∧ (y.fAction = 1 ∨ y.fAction = 2 ∨ y.fAction = 3) := by
  unfold grantO at h
  split at h
  · rename_i a b c h1
    split at h
    · rename_i h2
      cases h
      have h3 := h2
      unfold grantOkB at h3
      simp only [Bool.and_eq_true] at h3
      obtain ⟨h4, h5⟩ := act_range h3.2.2
      have ha := (name_noblank h3.1).2
      have hc := (name_noblank h3.2.1).2
      have hb := (act_name h5).2.2
      refine ⟨?_, by rw [h1, h4], h2, h5⟩
      unfold wordsB
      rw [h1]
      have e : ∀ p : ByteArray, p.data.toList ≠ [] → p.data.toList.isEmpty = false := fun p hp => by
        cases hq : p.data.toList with
        | nil => exact absurd hq hp
        | cons x y => rfl
      rw [h4] at hb ⊢
      simp only [List.filter_cons, List.filter_nil, e a ha, e b hb, e c hc, Bool.not_false, if_true]
    · cases h
  · cases h
theorem grant_wlen {s : ByteArray} (h : (wordsB s).length ≠ 3) : grantO s = none := by
  cases ho : grantO s with
  | none => rfl
  | some y => rw [(grant_words ho).1] at h; exact absurd rfl h
theorem grantText_data {y : DGrant} (h : grantOkB y = true) : (grantText y).data.toList = joinC 32 [y.fRole.data.toList, (actionName y.fAction).data.toList, y.fObject.data.toList] := by
  unfold grantText
  rw [if_pos h]
  simp [joinC]
theorem grant_text {s p q r : ByteArray} {k : Int} (hw : wordsB s = [p, q, r]) (hk : k = 1 ∨ k = 2 ∨ k = 3) : grantText ⟨p, r, k⟩ = s ↔ grantO s = some ⟨p, r, k⟩ := by
  constructor
  · intro h
    have hok : grantOkB ⟨p, r, k⟩ = true := by
      cases ho : grantOkB ⟨p, r, k⟩ with
      | true => rfl
      | false =>
        unfold grantText at h
        rw [ho] at h
        have h0 : s.data.toList = [] := by rw [← h]; rfl
        unfold wordsB cutsB at hw
        rw [h0] at hw
        have hd : ([[]] : List (List UInt8)).map ofL = [⟨#[]⟩] := rfl
        rw [cutsL, hd, List.filter_cons, if_neg (by decide), List.filter_nil] at hw
        exact absurd hw (by simp)
    have h3 := hok
    unfold grantOkB at h3
    simp only [Bool.and_eq_true] at h3
    have hc : cutsL 32 s.data.toList = [p.data.toList, (actionName k).data.toList, r.data.toList] := by
      rw [← h, grantText_data hok]
      refine cuts_join (by simp) fun x hx => ?_
      simp only [List.mem_cons, List.mem_nil_iff, or_false] at hx
      rcases hx with rfl | rfl | rfl
      · exact (name_noblank h3.1).1
      · exact (act_name hk).2.1
      · exact (name_noblank h3.2.1).1
    have hcb : cutsB 32 s = [p, actionName k, r] := by
      unfold cutsB
      rw [hc]
      simp [ofL_self]
    rw [grantO_three hcb, (act_name hk).1, if_pos hok]
  · intro h
    obtain ⟨_, h2, h3, _⟩ := grant_words h
    have h4 : (grantText ⟨p, r, k⟩).data.toList = s.data.toList := by
      rw [grantText_data h3, ← join_cuts 32 s.data.toList]
      congr 1
      have := congrArg (List.map fun b : ByteArray => b.data.toList) h2
      unfold cutsB at this
      rw [List.map_map, show ((fun b : ByteArray => b.data.toList) ∘ ofL) = id by funext x; exact ofL_data x, List.map_id] at this
      exact this.symm
    rw [← ofL_self (grantText ⟨p, r, k⟩), h4, ofL_self]
theorem grant_of {s p q r : ByteArray} {y : DGrant} (hw : wordsB s = [p, q, r]) (h : grantO s = some y) : ∃ k : Int, (k = 1 ∨ k = 2 ∨ k = 3) ∧ y = ⟨p, r, k⟩ := by
  obtain ⟨h1, _, _, h4⟩ := grant_words h
  rw [hw] at h1
  simp only [List.cons.injEq, and_true] at h1
  obtain ⟨a, b, c⟩ := y
  exact ⟨c, h4, by rw [h1.1, h1.2.2]⟩

end Go.Proofs.YtbblkmnafdmcdaaDoor
