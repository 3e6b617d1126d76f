/- A list of the call's own, of several cells an element, and the sort's words for a row of cells. -/
import Derived.Test.YtepegiklnhoobaaRows
import Derived.Test.YtepegiklnhoobaaGrow
import Derived.Shelf.SlSortCmp.NoneTotal
namespace Go.Proofs.Ytepegiklnhoobaa
set_option linter.unusedVariables false
set_option linter.unusedSimpArgs false
set_option linter.unusedSectionVars false
open Go.RowKit Go.Sort

theorem flatk_get {β : Type} (enc : β → List Value) {k : Nat} (hk : ∀ x, (enc x).length = k) : ∀ (l : List β) (t : Nat), t < l.length * k → (l.flatMap enc)[t]? = (l[t / k]?).bind fun x => (enc x)[t % k]?
  | [], t, h => by simp at h
  | x :: r, t, h => by
    have hk0 : 0 < k := by
      rcases Nat.eq_zero_or_pos k with h0 | h0
      · subst h0; simp at h
      · exact h0
    rw [List.flatMap_cons]
    by_cases ht : t < k
    · rw [List.getElem?_append_left (by rw [hk]; exact ht), Nat.div_eq_of_lt ht, Nat.mod_eq_of_lt ht]
      rfl
    · obtain ⟨u, rfl⟩ : ∃ u, t = u + k := ⟨t - k, by omega⟩
      rw [List.getElem?_append_right (by rw [hk]; omega), hk, Nat.add_sub_cancel, Nat.add_div_right u hk0, Nat.add_mod_right]
      rw [flatk_get enc hk r u (by simp [Nat.add_mul] at h; omega)]
      rfl
theorem flatk_len {β : Type} (enc : β → List Value) {k : Nat} (hk : ∀ x, (enc x).length = k) : ∀ (l : List β), (l.flatMap enc).length = l.length * k
  | [] => by simp
  | x :: r => by rw [List.flatMap_cons, List.length_append, hk, flatk_len enc hk r, List.length_cons, Nat.add_mul]; omega
theorem flatK_list {β : Type} [Inhabited β] (enc : β → List Value) {k : Nat} (hk : ∀ x, (enc x).length = k) (d : List β) : (flatK enc k d.toArray).toList = d.flatMap enc := by
  apply List.ext_getElem?
  intro t
  by_cases ht : t < d.length * k
  · have hk0 : 0 < k := by
      rcases Nat.eq_zero_or_pos k with h0 | h0
      · subst h0; simp at ht
      · exact h0
    have hd : t / k < d.length := (Nat.div_lt_iff_lt_mul hk0).2 ht
    have hm : t % k < k := Nat.mod_lt _ hk0
    rw [flatk_get enc hk d t ht, List.getElem?_eq_getElem hd]
    have h1 : t < (flatK enc k d.toArray).size := by simpa using ht
    have h2 := get_flatK enc k d.toArray t (by simpa using ht)
    rw [Array.getElem?_toList, Array.getElem?_eq_getElem h1, ← getElem!_pos _ t h1, h2]
    have h3 : (enc d[t / k])[t % k]? = some ((enc d[t / k])[t % k]'(by rw [hk]; exact hm)) := List.getElem?_eq_getElem _
    rw [Option.bind_some, h3]
    have h4 : d.toArray[t / k]! = d[t / k] := by rw [getElem!_pos _ _ (by simpa using hd)]; simp
    rw [h4, getElem!_pos _ _ (by rw [hk]; exact hm)]
  · rw [List.getElem?_eq_none (by simp; omega), List.getElem?_eq_none (by rw [flatk_len enc hk]; omega)]

section
variable {α β : Type} [Inhabited β] {E : Enc α} {enc : β → List Value} {et : TypeId} {base g n c : Nat} {w : World} {l : List α}
theorem GL.holdsK (hk : ∀ x, (enc x).length = E.k) (h : GL E et base w (.slice (some ⟨g, 0, none⟩) n c) l) {d : List β} (hd : d.flatMap enc = l.flatMap E.cells) :
    g < w.heap.size ∧ base ≤ g ∧ HoldsK enc E.k w g 0 d.toArray := by
  have ho := h.own
  rcases ho.2.2 with ⟨e0, _⟩ | ⟨g', cap, cur, e0, hb, hg, hn, hm, hs, ht⟩
  · cases e0
  · injection e0 with e1 _ e3
    injection e1 with e1
    injection e1 with e1
    subst e1; subst e3
    have hlt : g < w.heap.size := by
      rcases Nat.lt_or_ge g w.heap.size with h' | h'
      · exact h'
      · rw [Array.getElem?_eq_none h'] at hg; cases hg
    have hdl : d.length * E.k = n * E.k := by
      have := ho.2.1
      rw [← hd, flatk_len enc hk] at this
      exact this
    refine ⟨hlt, hb, fun j hj => ?_⟩
    have hj' : j < n * E.k := by rw [← hdl]; simpa using hj
    refine ⟨?_, by simp [World.frozen?, hg]⟩
    have e2 : (cur.toList.take (n * E.k))[j]? = (flatK enc E.k d.toArray).toList[j]? := by rw [ht, flatK_list enc hk, hd]
    rw [List.getElem?_take, if_pos hj', Array.getElem?_toList, Array.getElem?_toList, Array.getElem?_eq_getElem hj, ← getElem!_pos _ j hj] at e2
    simp only [World.cell?, hg, Nat.zero_add]
    simp only [Option.isSome_none, Bool.false_eq_true, if_false]
    rw [e2]
    rfl
theorem GL.sortedK (hk : ∀ x, (enc x).length = E.k) (h : GL E et base w (.slice (some ⟨g, 0, none⟩) n c) l) {d : List β} {l' : List α} (hd : d.flatMap enc = l'.flatMap E.cells) (hl : l'.length = n) (m : Nat) (os : Array Obj) :
    GL E et base (sortWorldK enc E.k w g 0 m d.toArray os) (.slice (some ⟨g, 0, none⟩) n c) l' := by
  have ho := h.own
  rcases ho.2.2 with ⟨e0, _⟩ | ⟨g', cap, cur, e0, hb, hg, hn, hm, hs, ht⟩
  · cases e0
  · injection e0 with e1 _ e3
    injection e1 with e1
    injection e1 with e1
    subst e1; subst e3
    have hlt : g < w.heap.size := by
      rcases Nat.lt_or_ge g w.heap.size with h' | h'
      · exact h'
      · rw [Array.getElem?_eq_none h'] at hg; cases hg
    have hfl : (flatK enc E.k d.toArray).toList = l'.flatMap E.cells := (flatK_list enc hk d).trans hd
    have hfs : (flatK enc E.k d.toArray).size = n * E.k := by
      have := congrArg List.length hfl
      rw [Array.length_toList, flatk_len E.cells E.len, hl] at this
      exact this
    unfold GL
    rw [hl]
    refine ⟨by rw [flatk_len E.cells E.len, hl], .inr ⟨g, c, putCells id 0 (flatK enc E.k d.toArray) cur, rfl, hb, ?_, hn, hm, by simp [putCells, hs], ?_⟩⟩
    · unfold sortWorldK grow putRowK putRow mapBlock Sort.ahead
      simp only [World.drewN]
      rw [Array.getElem?_append_left (by simpa using hlt), Array.getElem?_modify, if_pos rfl, hg]
      rfl
    · apply List.ext_getElem?
      intro j
      rw [List.getElem?_take]
      by_cases hj : j < n * E.k
      · have hjc : j < cur.size := by rw [hs]; exact Nat.lt_of_lt_of_le hj (Nat.mul_le_mul_right _ hn)
        rw [if_pos hj, Array.getElem?_toList, ← hfl, Array.getElem?_toList]
        simp only [putCells, Array.getElem?_mapIdx, Array.getElem?_eq_getElem hjc, Option.map_some]
        rw [if_pos (by rw [hfs]; omega), Array.getElem?_eq_getElem (by rw [hfs]; exact hj), Nat.sub_zero, getElem!_pos _ j (by rw [hfs]; exact hj)]
        rfl
      · rw [if_neg hj, List.getElem?_eq_none (by rw [flatk_len E.cells E.len, hl]; omega)]
theorem below_sortK {w0 : World} (hb : Below base w0 w) (hg : base ≤ g) (hgs : g < w.heap.size) (k m : Nat) (d : Array β) (os : Array Obj) : Below base w0 (sortWorldK enc k w g 0 m d os) := by
  refine hb.trans ⟨rfl, rfl, rfl, ?_, fun j hj => ?_⟩
  · simp [sortWorldK, grow, putRowK, putRow, mapBlock, Sort.ahead, World.drewN]
  · unfold sortWorldK grow putRowK putRow mapBlock Sort.ahead
    simp only [World.drewN]
    rw [Array.getElem?_append_left (by simp; omega), Array.getElem?_modify, if_neg (by omega)]
end
end Go.Proofs.Ytepegiklnhoobaa
