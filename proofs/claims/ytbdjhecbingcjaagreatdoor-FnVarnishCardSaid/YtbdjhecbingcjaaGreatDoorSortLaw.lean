/- Lists of texts in order, in plain words. -/
import Derived.Test.YtbdjhecbingcjaaGreatDoorPieces
import Derived.Sort.Walk0
namespace Go.Proofs.YtbdjhecbingcjaaGreatDoor
set_option linter.unusedVariables false
set_option linter.unusedSimpArgs false
set_option linter.unusedSectionVars false

def sortB (l : List ByteArray) : List ByteArray := ((l.map fun s => s.data.toList).mergeSort fun x y => decide (x ≤ y)).map ofL
def leS (a b : ByteArray) : Prop := a.data.toList ≤ b.data.toList
theorem leS_trans {a b c : ByteArray} (h : leS a b) (h' : leS b c) : leS a c := List.le_trans h h'
theorem leS_refl (a : ByteArray) : leS a a := List.le_refl _
theorem leS_total (a b : ByteArray) : leS a b ∨ leS b a := List.le_total _ _
theorem less_leS (a b : ByteArray) : Op.bytesLess a.toList b.toList = true → leS a b := fun h => by
  rw [ByteArray.toList_eq, ByteArray.toList_eq, bytesLess_eq, decide_eq_true_eq] at h
  exact List.le_of_lt h
theorem notless_leS (a b : ByteArray) : Op.bytesLess b.toList a.toList = false → leS a b := fun h => by
  rw [ByteArray.toList_eq, ByteArray.toList_eq, bytesLess_eq, decide_eq_false_iff_not] at h
  exact List.not_lt.1 h
theorem sortB_of {l L : List ByteArray} (hp : L.Perm l) (hs : L.Pairwise leS) : L = sortB l := by
  have h1 : (L.map fun s => s.data.toList).Pairwise (· ≤ ·) := List.pairwise_map.2 hs
  have h2 : ((l.map fun s => s.data.toList).mergeSort fun x y => decide (x ≤ y)).Pairwise (· ≤ ·) := by
    have := List.pairwise_mergeSort (le := fun (x y : List UInt8) => decide (x ≤ y)) (fun a b c h h' => by simp only [decide_eq_true_eq] at *; exact List.le_trans h h') (fun a b => by simp only [Bool.or_eq_true, decide_eq_true_eq]; exact List.le_total a b) (l.map fun s => s.data.toList)
    exact this.imp fun h => of_decide_eq_true h
  have h3 : (L.map fun s => s.data.toList).Perm ((l.map fun s => s.data.toList).mergeSort fun x y => decide (x ≤ y)) := (hp.map _).trans (List.mergeSort_perm _ _).symm
  have h4 := List.Perm.eq_of_pairwise (fun a b _ _ h h' => List.le_antisymm h h') h1 h2 h3
  unfold sortB
  rw [← h4, List.map_map]
  have : (ofL ∘ fun s : ByteArray => s.data.toList) = id := by funext s; exact ofL_self s
  rw [this, List.map_id]
theorem sortB_perm (l : List ByteArray) : (sortB l).Perm l := by
  have h := ((List.mergeSort_perm (l.map fun s => s.data.toList) fun x y => decide (x ≤ y)).map ofL)
  rw [List.map_map] at h
  have e : (ofL ∘ fun s : ByteArray => s.data.toList) = id := by funext s; exact ofL_self s
  rw [e, List.map_id] at h
  exact h
theorem sortB_sorted (l : List ByteArray) : (sortB l).Pairwise leS := by
  unfold sortB
  refine List.pairwise_map.2 ?_
  have := List.pairwise_mergeSort (le := fun (x y : List UInt8) => decide (x ≤ y)) (fun a b c h h' => by simp only [decide_eq_true_eq] at *; exact List.le_trans h h') (fun a b => by simp only [Bool.or_eq_true, decide_eq_true_eq]; exact List.le_total a b) (l.map fun s => s.data.toList)
  exact this.imp fun h => by unfold leS; rw [ofL_data, ofL_data]; exact of_decide_eq_true h
theorem sortB_length (l : List ByteArray) : (sortB l).length = l.length := (sortB_perm l).length_eq

theorem sortB_data (l : List ByteArray) : ((sortB l).map fun s => s.data.toList) = (l.map fun s => s.data.toList).mergeSort fun x y => decide (x ≤ y) := by
  unfold sortB
  rw [List.map_map]
  have : ((fun s : ByteArray => s.data.toList) ∘ ofL) = id := by funext s; exact ofL_data s
  rw [this, List.map_id]

/-- one round of insertion, seen from inside: P ahead of the new one, M behind it -/
structure Insd (l : List ByteArray) (i k : Nat) (L P : List ByteArray) (y : ByteArray) (M R : List ByteArray) : Prop where
  eq : L = P ++ y :: (M ++ R)
  k : P.length = k
  i : P.length + M.length = i
  perm : L.Perm l
  sorted : (P ++ M).Pairwise leS
  small : ∀ m ∈ M, leS y m
theorem Insd.swap {l L P M R : List ByteArray} {x y : ByteArray} {i k : Nat} (h : Insd l i (k + 1) L (P ++ [x]) y M R) (hxy : leS y x) : Insd l i k (P ++ y :: (x :: M ++ R)) P y (x :: M) R where
  eq := rfl
  k := by have := h.k; simp at this; omega
  i := by have := h.i; simp at this; simp; omega
  perm := by
    refine List.Perm.trans ?_ h.perm
    rw [h.eq, List.append_assoc]
    exact List.Perm.append_left P (List.Perm.swap x y _)
  sorted := by have := h.sorted; rw [List.append_assoc] at this; exact this
  small := fun m hm => by
    rcases List.mem_cons.1 hm with rfl | hm
    · exact hxy
    · exact h.small m hm
theorem Insd.stop {l L P M R : List ByteArray} {x y : ByteArray} {i k : Nat} (h : Insd l i (k + 1) L (P ++ [x]) y M R) (hxy : leS x y) : (L.take (i + 1)).Pairwise leS := by
  have hl : (P ++ [x] ++ y :: M).length = i + 1 := by have := h.i; simp at this; simp; omega
  have e : L.take (i + 1) = P ++ [x] ++ y :: M := by
    rw [h.eq, show P ++ [x] ++ y :: (M ++ R) = (P ++ [x] ++ y :: M) ++ R by simp, ← hl, List.take_left']
    rfl
  rw [e]
  have hs := h.sorted
  rw [List.pairwise_append] at hs ⊢
  refine ⟨hs.1, List.pairwise_cons.2 ⟨h.small, hs.2.1⟩, fun a ha b hb => ?_⟩
  rcases List.mem_cons.1 hb with rfl | hb
  · rcases List.mem_append.1 ha with ha | ha
    · refine leS_trans ?_ hxy
      exact (List.pairwise_append.1 hs.1).2.2 a ha x (by simp)
    · rw [List.mem_singleton.1 ha]; exact hxy
  · exact hs.2.2 a ha b hb
theorem Insd.first {l L M R : List ByteArray} {y : ByteArray} {i : Nat} (h : Insd l i 0 L [] y M R) : (L.take (i + 1)).Pairwise leS := by
  have hl : (y :: M).length = i + 1 := by have := h.i; simp at this; simp; omega
  have e : L.take (i + 1) = y :: M := by
    rw [h.eq, show [] ++ y :: (M ++ R) = (y :: M) ++ R by simp, ← hl, List.take_left']
    rfl
  rw [e]
  have hs := h.sorted
  exact List.pairwise_cons.2 ⟨h.small, by simpa using hs⟩
theorem Insd.start {l L : List ByteArray} {y : ByteArray} {i : Nat} (hp : L.Perm l) (hs : (L.take i).Pairwise leS) (hy : L[i]? = some y) : Insd l i i L (L.take i) y [] (L.drop (i + 1)) where
  eq := by
    have hi := (List.getElem?_eq_some_iff.1 hy).1
    rw [List.nil_append, ← (List.getElem?_eq_some_iff.1 hy).2, List.getElem_cons_drop, List.take_append_drop]
  k := by have hi := (List.getElem?_eq_some_iff.1 hy).1; rw [List.length_take]; omega
  i := by have hi := (List.getElem?_eq_some_iff.1 hy).1; rw [List.length_take]; simp; omega
  perm := hp
  sorted := by simpa using hs
  small := fun m hm => by simp at hm
theorem snoc_of {α : Type} {P : List α} {k : Nat} (h : P.length = k + 1) : ∃ P' x, P = P' ++ [x] ∧ P'.length = k := by
  refine ⟨P.take k, P[k], ?_, by rw [List.length_take]; omega⟩
  have h1 : P.take (k + 1) = P := List.take_of_length_le (by omega)
  exact h1.symm.trans (List.take_succ_eq_append_getElem (by omega))

end Go.Proofs.YtbdjhecbingcjaaGreatDoor
