/- Clearing and putting elements of several cells in a list of the call's own. Nothing here speaks of the program. -/
import Derived.Test.YtfabijhilfjkcaaRows
import Derived.Test.YtfabijhilfjkcaaArr
import Derived.Test.YtfabijhilfjkcaaTwo
import Derived.Test.YtfabijhilfjkcaaOrd
namespace Go.Proofs.Ytfabijhilfjkcaa
set_option linter.unusedVariables false
set_option linter.unusedSimpArgs false
set_option linter.unusedSectionVars false
open Go.RowKit

section
variable {P : Program} {w : World}
theorem run_clear_k {α : Type} (E : Enc α) (x : α) (t e ty : TypeId) (z : Value) (ht : P.underlying t = some (.slice e)) (hv : ∀ w, (zeroValue e).run P w = .ok z w) (hx : E.cells x = z.cells.toList) (b o n c : Nat) (hn : 0 < n)
    (hc : ∀ j, j < n * E.k → (w.cell? ⟨b, o + j, none⟩).isSome = true) (hf : ∀ j, j < n * E.k → w.frozen? ⟨b, o + j, none⟩ = false) :
    (Builtin.clear_ #[t] ty #[.slice (some ⟨b, o, none⟩) n c]).run P w = .ok (.tuple #[]) (w.setCells b o ((List.replicate n x).flatMap E.cells)) := by
  have hz : z.cells.size = E.k := by rw [← E.len x, hx]; simp
  have hzc : (Builtin.zeroCells z.cells n).toList = (List.replicate n x).flatMap E.cells := by
    have := toList_madeCells E (z := z.cells) hx n
    rw [← this, ← hz]
    rfl
  have hl : ((List.replicate n x).flatMap E.cells).length = n * E.k := by rw [flat_len, List.length_replicate]
  have hst := run_storeCells_cells (P := P) b o ((List.replicate n x).flatMap E.cells) 0 w (by rw [hl]; simpa using hc) (by rw [hl]; simpa using hf) (fun u hu => by
    obtain ⟨y, _, hy⟩ := List.mem_flatMap.1 hu
    exact E.one y u hy)
  simp only [Nat.add_zero] at hst
  obtain ⟨m, rfl⟩ : ∃ m, n = m + 1 := ⟨n - 1, by omega⟩
  simp [Builtin.clear_, run_underlying ht, hv, hzc, hst]
end
section
variable {α : Type} {E : Enc α} {et : TypeId} {base g n c : Nat} {w : World} {zs : List α}
theorem GL.putK (h : GL E et base w (.slice (some ⟨g, 0, none⟩) n c) zs) {i : Nat} (x : α) (hi : i < n) : GL E et base (w.setCells g (i * E.k) (E.cells x)) (.slice (some ⟨g, 0, none⟩) n c) (zs.set i x) := by
  have h1 := h.splice i [x] (by simp; omega)
  have hl := h.len
  have e1 : zs.take i ++ [x] ++ zs.drop (i + [x].length) = zs.set i x := by
    rw [List.set_eq_take_append_cons_drop, if_pos (by omega)]
    simp
  have e2 : [x].flatMap E.cells = E.cells x := by simp
  rw [e1, e2] at h1
  exact h1
end
/-- what a deleting scan has done: the first i are those kept of the first j, the rest is as it was -/
structure DelSt {α : Type} (p : α → Bool) (l : List α) (i j : Nat) (L : List α) : Prop where
  kept : L.take i = (l.take j).filter p
  rest : L.drop j = l.drop j
  len : L.length = l.length
  le : i ≤ j
section
variable {α : Type} {p : α → Bool} {l L : List α} {i j : Nat} {x : α}
theorem DelSt.get (h : DelSt p l i j L) (hx : l[j]? = some x) : L[j]? = some x := by
  have h1 : (L.drop j)[0]? = (l.drop j)[0]? := by rw [h.rest]
  rw [List.getElem?_drop, List.getElem?_drop, Nat.add_zero] at h1
  rw [h1, hx]
theorem DelSt.out (h : DelSt p l i j L) (hx : l[j]? = some x) (hp : p x = false) : DelSt p l i (j + 1) L := by
  refine ⟨?_, ?_, h.len, by have := h.le; omega⟩
  · rw [take_of_get hx, List.filter_append, h.kept]
    simp [hp]
  · have h1 := congrArg (List.drop 1) h.rest
    rwa [List.drop_drop, List.drop_drop] at h1
theorem DelSt.keep (h : DelSt p l i j L) (hx : l[j]? = some x) (hp : p x = true) : DelSt p l (i + 1) (j + 1) (L.set i x) := by
  have hj := (List.getElem?_eq_some_iff.1 hx).1
  have hle := h.le
  have hlen := h.len
  refine ⟨?_, ?_, by simpa using h.len, by omega⟩
  · rw [take_of_get hx, List.filter_append, List.set_eq_take_append_cons_drop, if_pos (by omega), List.take_append, List.length_take, Nat.min_eq_left (by omega), Nat.add_sub_cancel_left, List.take_of_length_le (by rw [List.length_take]; omega), ← h.kept]
    simp [hp]
  · have h1 := congrArg (List.drop 1) h.rest
    rw [List.drop_drop, List.drop_drop] at h1
    rw [List.drop_set_of_lt (by omega)]
    exact h1
theorem DelSt.start (hx : ∀ (k : Nat) y, k < j → l[k]? = some y → p y = true) (hp : ∀ y, l[j]? = some y → p y = false) (hj : j < l.length) : DelSt p l j (j + 1) l := by
  have e : (l.take j).filter p = l.take j := by
    rw [List.filter_eq_self]
    intro y hy
    obtain ⟨k, hk⟩ := List.mem_iff_getElem?.1 hy
    have hkl := (List.getElem?_eq_some_iff.1 hk).1
    rw [List.length_take] at hkl
    rw [List.getElem?_take, if_pos (by omega)] at hk
    exact hx k y (by omega) hk
  obtain ⟨y, hy⟩ : ∃ y, l[j]? = some y := ⟨_, List.getElem?_eq_getElem hj⟩
  refine ⟨?_, rfl, rfl, by omega⟩
  rw [take_of_get hy, List.filter_append, e]
  simp [hp y hy]
theorem DelSt.done (h : DelSt p l i j L) (hj : l.length ≤ j) : L.take i = l.filter p := by rw [h.kept, List.take_of_length_le hj]
theorem keep_all (h : ∀ y ∈ l, p y = true) : l.filter p = l := List.filter_eq_self.2 h
end
theorem GL.swapS2 {et : TypeId} {base g n c k : Nat} {w : World} {P S : List ByteArray} {x y : ByteArray} (h : GL strE et base w (.slice (some ⟨g, 0, none⟩) n c) (P ++ x :: y :: S)) (hk : P.length = k) :
    GL strE et base ((w.setCell ⟨g, k + 1, none⟩ (.string x)).setCell ⟨g, k, none⟩ (.string y)) (.slice (some ⟨g, 0, none⟩) n c) (P ++ y :: x :: S) := by
  subst hk
  have hl := h.len
  simp at hl
  have h1 := h.splice (P.length + 1) [x] (by simp; omega)
  have h2 := h1.splice P.length [y] (by simp; omega)
  have e : ((P ++ x :: y :: S).take (P.length + 1) ++ [x] ++ (P ++ x :: y :: S).drop (P.length + 1 + [x].length)).take P.length ++ [y] ++ ((P ++ x :: y :: S).take (P.length + 1) ++ [x] ++ (P ++ x :: y :: S).drop (P.length + 1 + [x].length)).drop (P.length + [y].length) = P ++ y :: x :: S := by
    have e1 : (P ++ x :: y :: S).take (P.length + 1) = P ++ [x] := by
      rw [show P ++ x :: y :: S = (P ++ [x]) ++ y :: S by simp, show P.length + 1 = (P ++ [x]).length by simp, List.take_left']
      rfl
    have e2 : (P ++ x :: y :: S).drop (P.length + 1 + [x].length) = S := by
      rw [show P ++ x :: y :: S = (P ++ [x, y]) ++ S by simp, show P.length + 1 + [x].length = (P ++ [x, y]).length by simp, List.drop_left']
      rfl
    rw [e1, e2]
    have e3 : (P ++ [x] ++ [x] ++ S).take P.length = P := by
      rw [show P ++ [x] ++ [x] ++ S = P ++ ([x] ++ [x] ++ S) by simp, List.take_left']
      rfl
    have e4 : (P ++ [x] ++ [x] ++ S).drop (P.length + [y].length) = x :: S := by
      rw [show P ++ [x] ++ [x] ++ S = (P ++ [x]) ++ (x :: S) by simp, show P.length + [y].length = (P ++ [x]).length by simp, List.drop_left']
      rfl
    rw [e3, e4]
    simp
  rw [e] at h2
  have e5 : ∀ (W : World) (i : Nat) (z : ByteArray), W.setCells g (i * strE.k) ([z].flatMap strE.cells) = W.setCell ⟨g, i, none⟩ (.string z) := fun W i z => by
    show W.setCells g (i * 1) [.string z] = _
    rw [Nat.mul_one]
    rfl
  rw [e5, e5] at h2
  exact h2
theorem GL.cellsTwo {et : TypeId} {base g n c k : Nat} {w : World} {P S : List ByteArray} {x y : ByteArray} (h : GL strE et base w (.slice (some ⟨g, 0, none⟩) n c) (P ++ x :: y :: S)) (hk : P.length = k) :
    w.cell? ⟨g, k, none⟩ = some (.string x) ∧ w.cell? ⟨g, k + 1, none⟩ = some (.string y) := by
  subst hk
  have h1 := h.range P.length
  rw [show (P ++ x :: y :: S).drop P.length = x :: y :: S from List.drop_left' rfl] at h1
  have a := h1 0 (.string x) rfl
  have b := h1 1 (.string y) rfl
  rw [show P.length * strE.k = P.length from Nat.mul_one _] at a b
  exact ⟨a, b⟩
end Go.Proofs.Ytfabijhilfjkcaa
