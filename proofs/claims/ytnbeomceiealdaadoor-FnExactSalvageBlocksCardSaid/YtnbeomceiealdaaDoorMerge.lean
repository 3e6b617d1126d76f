/- All blocks of two lists. -/
import Derived.Test.YtnbeomceiealdaaDoorRows
import Derived.Test.YtnbeomceiealdaaDoorPutI
namespace Go.Proofs.YtnbeomceiealdaaDoor
set_option linter.unusedVariables false
set_option linter.unusedSimpArgs false
set_option linter.unusedSectionVars false
open Go.RowKit
set_option maxRecDepth 100000

theorem cmpBl_swap (x y : DBlock) : cmpBl y x = - cmpBl x y := by
  unfold cmpBl cmpS
  rw [cmp_swap x.fKind.data.toList y.fKind.data.toList, cmp_swap x.fName.data.toList y.fName.data.toList]
  by_cases h : Lib.compareBytes x.fKind.data.toList y.fKind.data.toList = 0
  · rw [h]; rfl
  · rw [if_pos (by omega), if_pos h]
theorem SortedBl.pw {l : List DBlock} (h : SortedBl l) : l.Pairwise fun x y => cmpBl x y < 0 :=
  List.pairwise_iff_getElem.2 fun i j hi hj hij => h.lt i j _ _ hij (List.getElem?_eq_getElem hi) (List.getElem?_eq_getElem hj)
theorem SortedBl.mk' {l : List DBlock} (h1 : ∀ x ∈ l, blockB x = true) (h2 : l.Pairwise fun x y => cmpBl x y < 0) : SortedBl l := ⟨h1, fun i j x y hij hx hy => pair_lt h2 hij hx hy⟩
theorem SortedBl.ins {l : List DBlock} {b : DBlock} (h : SortedBl l) (hb : blockB b = true) : SortedBl (insB l b) := by
  have hp := h.parts (keyOf b.fKind b.fName)
  have hlo : ∀ x ∈ l.take (pOf l b), cmpBl x b < 0 := fun x hx => by
    obtain ⟨i, hi⟩ := List.mem_iff_getElem?.1 hx
    rw [List.getElem?_take] at hi
    split at hi
    · rename_i hlt; exact hp.lo i x hlt hi
    · cases hi
  have hhi : ∀ y ∈ l.drop (qOf l b), cmpBl b y < 0 := fun y hy => by
    obtain ⟨i, hi⟩ := List.mem_iff_getElem?.1 hy
    rw [List.getElem?_drop] at hi
    cases hf : fOf l b with
    | true =>
      have hq : qOf l b = pOf l b + 1 := by unfold qOf; rw [hf]; rfl
      obtain ⟨x, hx, h0⟩ := found_get (l := l) (key := keyOf b.fKind b.fName) (p := posOf l (keyOf b.fKind b.fName)) hf
      have h1 := h.lt _ _ x y (by show posOf l (keyOf b.fKind b.fName) < qOf l b + i; rw [hq]; unfold pOf; omega) hx hi
      rw [cmpBl_left h0] at h1
      exact h1
    | false =>
      have hq : qOf l b = pOf l b := by unfold qOf; rw [hf]; rfl
      have h1 := hp.hi (qOf l b + i) y (by rw [hq]; unfold pOf; omega) hi
      have h2 : ¬ cmpBl y (keyOf b.fKind b.fName) = 0 := fun h0 => by
        have := (h.at hi h0).2
        unfold fOf at hf
        rw [this] at hf
        cases hf
      have h3 := cmpBl_swap y (keyOf b.fKind b.fName)
      have h4 : cmpBl (keyOf b.fKind b.fName) y = cmpBl b y := rfl
      omega
  refine SortedBl.mk' (fun x hx => ?_) ?_
  · unfold insB at hx
    rcases List.mem_append.1 hx with hx | hx
    · rcases List.mem_append.1 hx with hx | hx
      · exact h.ok x (List.mem_of_mem_take hx)
      · simp at hx; subst hx; exact hb
    · exact h.ok x (List.mem_of_mem_drop hx)
  · unfold insB
    rw [List.pairwise_append, List.pairwise_append]
    refine ⟨⟨h.pw.sublist (List.take_sublist _ _), List.pairwise_singleton _ _, fun x hx y hy => ?_⟩, h.pw.sublist (List.drop_sublist _ _), fun x hx y hy => ?_⟩
    · simp at hy; subst hy; exact hlo x hx
    · rcases List.mem_append.1 hx with hx | hx
      · exact cmpBl_trans (hlo x hx) (hhi y hy)
      · simp at hx; subst hx; exact hhi y hy
theorem ins_ge {l : List DBlock} {b : DBlock} (h : SortedBl l) : l.length ≤ (insB l b).length ∧ (insB l b).length ≤ l.length + 1 := by
  rw [ins_len h]; split <;> omega
def mergeL (a b : List DBlock) : List DBlock := b.foldl insB a
theorem mergeL_step {a b : List DBlock} {k : Nat} {x : DBlock} (hx : b[k]? = some x) : mergeL a (b.take (k + 1)) = insB (mergeL a (b.take k)) x := by
  unfold mergeL
  rw [take_of_get hx, List.foldl_append]
  rfl
theorem merge_sorted : ∀ {b a : List DBlock}, SortedBl a → (∀ x ∈ b, blockB x = true) → SortedBl (mergeL a b) ∧ a.length ≤ (mergeL a b).length ∧ (mergeL a b).length ≤ a.length + b.length
  | [], a, h, _ => ⟨h, Nat.le_refl _, by simp [mergeL]⟩
  | x :: r, a, h, hb => by
    obtain ⟨h1, h2, h3⟩ := merge_sorted (b := r) (h.ins (hb x (List.mem_cons_self ..))) (fun y hy => hb y (List.mem_cons_of_mem _ hy))
    have h4 := ins_ge (b := x) h
    refine ⟨h1, ?_, ?_⟩
    · exact Nat.le_trans h4.1 h2
    · exact Nat.le_trans h3 (by simp only [List.length_cons]; omega)
theorem merge_take {a b : List DBlock} (ha : SortedBl a) (hb : ∀ x ∈ b, blockB x = true) (k : Nat) : SortedBl (mergeL a (b.take k)) ∧ a.length ≤ (mergeL a (b.take k)).length ∧ (mergeL a (b.take k)).length ≤ a.length + b.length ∧ (mergeL a (b.take k)).length ≤ (mergeL a b).length := by
  obtain ⟨h1, h2, h3⟩ := merge_sorted ha (fun x hx => hb x (List.mem_of_mem_take hx) : ∀ x ∈ b.take k, blockB x = true)
  refine ⟨h1, h2, Nat.le_trans h3 (by rw [List.length_take]; omega), ?_⟩
  have h4 := (merge_sorted (b := b.drop k) h1 (fun x hx => hb x (List.mem_of_mem_drop hx))).2.1
  have e : mergeL (mergeL a (b.take k)) (b.drop k) = mergeL a b := by
    unfold mergeL
    rw [← List.foldl_append, List.take_append_drop]
  rw [e] at h4
  exact h4
def mgRes (a b : List DBlock) : List DBlock := if blocksB a && blocksB b then (if 32 < (mergeL a b).length then [] else mergeL a b) else []
def mgCode (a b : List DBlock) : Int := if blocksB a && blocksB b then (if 32 < (mergeL a b).length then 5 else 0) else 1
theorem put_ok {l : List DBlock} {b : DBlock} (h : putCode l b = 0) : putRes l b = insB l b := by
  unfold putCode at h
  unfold putRes
  cases hf : fOf l b with
  | true => rfl
  | false =>
    rw [hf] at h
    simp only [Bool.false_eq_true, if_false] at h ⊢
    split at h
    · cases h
    · rename_i h32; rw [if_neg h32]
theorem put_full {l : List DBlock} {b : DBlock} (hs : SortedBl l) (h : putCode l b ≠ 0) : putCode l b = 5 ∧ (insB l b).length = 33 := by
  have h1 := ins_len (b := b) hs
  unfold putCode at h ⊢
  cases hf : fOf l b with
  | true => rw [hf] at h; exact absurd rfl h
  | false =>
    rw [hf] at h h1
    simp only [Bool.false_eq_true, if_false] at h h1 ⊢
    split at h
    · rename_i h32; rw [if_pos h32]; exact ⟨rfl, by omega⟩
    · exact absurd rfl h

end Go.Proofs.YtnbeomceiealdaaDoor
