/- A list of texts of the call's own whose head is cut off while its end grows ('work = work[1:]', 'work = append(work, x)'). -/
import Derived.Test.YtepegiklnhoobaaRows
import Derived.Test.YtepegiklnhoobaaTwo
import Derived.ArgAppend
namespace Go.Proofs.Ytepegiklnhoobaa
set_option linter.unusedVariables false
set_option linter.unusedSimpArgs false
set_option linter.unusedSectionVars false
open Go.RowKit

/-- the slice '.slice ⟨g, o⟩ n c' holds l: the end of a row of the call's own; or nothing, without room -/
def TL (et : TypeId) (base : Nat) (w : World) (g o n c : Nat) (l : List ByteArray) : Prop :=
  base ≤ g ∧ g < w.heap.size ∧ l.length = n ∧ n ≤ c ∧ ((∃ pre : List ByteArray, pre.length = o ∧ GL strE et base w (.slice (some ⟨g, 0, none⟩) (o + n) (o + c)) (pre ++ l)) ∨ c = 0)
section
variable {et : TypeId} {base : Nat} {w w' : World} {g o n c : Nat} {l : List ByteArray}
theorem TL.below (h : TL et base w g o n c l) (hb : Below w.heap.size w w') : TL et base w' g o n c l := by
  obtain ⟨h1, h2, h3, h4, h5⟩ := h
  refine ⟨h1, Nat.lt_of_lt_of_le h2 hb.size, h3, h4, ?_⟩
  rcases h5 with ⟨pre, h6, h7⟩ | h5
  · exact .inl ⟨pre, h6, h7.below hb⟩
  · exact .inr h5
theorem TL.touch {F : Nat → Prop} (h : TL et base w g o n c l) (ht : Touch F w w') (hF : ¬ F g) : TL et base w' g o n c l := by
  obtain ⟨h1, h2, h3, h4, h5⟩ := h
  refine ⟨h1, Nat.lt_of_lt_of_le h2 ht.size, h3, h4, ?_⟩
  rcases h5 with ⟨pre, h6, h7⟩ | h5
  · exact .inl ⟨pre, h6, h7.touch ht fun k hk hk' => by cases hk; exact hF hk'⟩
  · exact .inr h5
theorem TL.of_gl (h : GL strE et base w (.slice (some ⟨g, 0, none⟩) n c) l) : TL et base w g 0 n c l := by
  obtain ⟨h1, h2⟩ := h.lt g rfl
  refine ⟨h1, h2, h.len, h.cap.1, .inl ⟨[], rfl, ?_⟩⟩
  rw [Nat.zero_add, Nat.zero_add]
  exact h
theorem TL.head {x : ByteArray} {r : List ByteArray} (h : TL et base w g o n c (x :: r)) : w.cell? ⟨g, o, none⟩ = some (.string x) := by
  obtain ⟨h1, h2, h3, h4, h5⟩ := h
  rcases h5 with ⟨pre, h6, h7⟩ | h5
  · exact h7.cellS (by subst h6; simp)
  · simp at h3; omega
theorem TL.tail {x : ByteArray} {r : List ByteArray} (h : TL et base w g o n c (x :: r)) : TL et base w g (if c = 1 then o else o + 1) (n - 1) (c - 1) r := by
  obtain ⟨h1, h2, h3, h4, h5⟩ := h
  simp at h3
  refine ⟨h1, h2, by omega, by omega, ?_⟩
  by_cases hc : c = 1
  · exact .inr (by omega)
  · rw [if_neg hc]
    rcases h5 with ⟨pre, h6, h7⟩ | h5
    · refine .inl ⟨pre ++ [x], by simp [h6], ?_⟩
      rw [show o + 1 + (n - 1) = o + n by omega, show o + 1 + (c - 1) = o + c by omega, List.append_assoc]
      exact h7
    · omega
end
theorem run_cut1 {P : Program} (W : World) (t e : TypeId) (ht : P.underlying t = some (.slice e)) (hz : ∀ w, (Go.sizeOf e).run P w = .ok 1 w) (g o n c : Nat) (hnc : n + 1 ≤ c) :
    (Instr.slice t (.slice (some ⟨g, o, none⟩) (n + 1) c) (some (.int .i64 1)) none none).run P W = .ok (.slice (some ⟨g, if c = 1 then o else o + 1, none⟩) n (c - 1)) W := by
  have ht' : P.underlying t = some (.slice (P.elem t)) := by simp [Program.elem, ht]
  have he : P.elem t = e := by simp [Program.elem, ht]
  rw [run_slice_l W t _ _ _ ht' .i64 _ (by omega) (by omega), he, hz]
  by_cases h1 : c = 1
  · subst h1
    simp [Result.andThen, sliced]
  · simp [Result.andThen, sliced, Addr.add, h1]
/-- append of one text that lies at the head of a block -/
theorem wpList_pushTL {P : Program} {ops : Array Oper} {rest : List Oper} {p : Oper} {a : Act} {w : World} {Q : Exit → Act → World → Prop} (hgd : p.guard = none) (s x : Operand) (t : TypeId)
    (ho : p.op = .call { callee := .builtin .append, args := #[s, x], argTypes := #[t, t] })
    (base : Nat) (e : TypeId) (i : TypeInfo) (z : Value) (bytes : Nat) (ht : P.underlying t = some (.slice e)) (hi : P.info? e = some i) (hz : i.zero = some z)
    (hsize : i.size = 1) (hby : i.bytes = bytes) (hzs : z.cells.size = 1)
    (g o n c : Nat) (l : List ByteArray) (y : ByteArray) (hs : a.eval s = .slice (some ⟨g, o, none⟩) n c) (hl : TL e base w g o n c l)
    (q : Nat) (hx : a.eval x = .slice (some ⟨q, 0, none⟩) 1 1) (hnew : w.rangeAt q 0 (strE.cells y))
    (hlen : o + n + 1 ≤ 8388608) (hbytes : bytes ≤ 4096) (hbase : base ≤ w.heap.size)
    (h : ∀ g' o' c' w', TL e base w' g' o' (n + 1) c' (l ++ [y]) → Touch (fun k => k = g) w w' → (g' = g ∨ w.heap.size ≤ g') → o' ≤ o → wpList P ops Q rest (a.put p.dst (.slice (some ⟨g', o', none⟩) (n + 1) c')) w') : wpList P ops Q (p :: rest) a w := by
  obtain ⟨h1, h2, h3, h4, h5⟩ := hl
  have hflat : (l.flatMap strE.cells).length = n * 1 := by rw [flat_len, h3]; rfl
  refine wpList_append_arg w hgd s x t ho e i z 1 bytes ht hi hz hsize hby hzs (by decide) g o n c (l.flatMap strE.cells) hs hflat ?_ ⟨q, 0, none⟩ 1 1 (strE.cells y) hx (by rfl) (fun j u hu => by have := hnew j u hu; rw [Nat.zero_add] at this; rw [addr_add, Nat.zero_add]; exact this) (strE.one y) ?_ (by unfold maxLen; omega) (Nat.le_trans (Nat.mul_le_mul (by omega : n + 1 ≤ 8388608) hbytes) (by decide)) ?_ ?_
  · intro j u hj
    rcases h5 with ⟨pre, h6, h7⟩ | h5
    · have h8 := h7.range o
      rw [List.drop_left' h6] at h8
      have h9 := h8 j u hj
      rw [show o * strE.k = o from Nat.mul_one _] at h9
      exact h9
    · have : l = [] := List.eq_nil_of_length_eq_zero (by omega)
      subst this
      simp at hj
  · intro hr j hj
    rcases h5 with ⟨pre, h6, h7⟩ | h5
    · rcases h7.own.2.2 with ⟨e1, _⟩ | ⟨g1, cap, cur, e1, _, hg, hnc, hcm, hcs, _⟩
      · cases e1
      · cases e1
        have hj0 : j = 0 := by simp [strE] at hj; omega
        subst hj0
        refine ⟨?_, h7.free _⟩
        rw [cell_of_row w g _ cur e (0, 0) hg]
        rw [Array.getElem?_eq_getElem (by rw [hcs]; show _ < _ * 1; omega)]
        rfl
    · omega
  · intro hr
    rcases h5 with ⟨pre, h6, h7⟩ | h5
    · have hT : Touch (fun k => k = g) w (w.setCells g (o + n * 1) (strE.cells y)) := Touch.setCells (F := fun k => k = g) rfl _ _
      refine h g o c _ ⟨h1, Nat.lt_of_lt_of_le h2 hT.size, by simp [h3], hr, .inl ⟨pre, h6, ?_⟩⟩ hT (.inl rfl) (Nat.le_refl _)
      have hN : ∀ j u, (strE.cells y)[j]? = some u → w.cell? ((⟨q, 0, none⟩ : Addr).add j) = some u := fun j u hu => by have := hnew j u hu; rw [Nat.zero_add] at this; rw [addr_add, Nat.zero_add]; exact this
      have hE1 : strE.k = 1 := rfl
      obtain ⟨v', w', hr1, r2, _, _⟩ := run_push_block (P := P) (w := w) base t p.type e i z 1 bytes ht hi hz hsize hby hzs (by decide) (.slice (some ⟨g, 0, none⟩) (o + n) (o + c)) (o + n) ((pre ++ l).flatMap strE.cells) h7.own.2 ⟨q, 0, none⟩ 1 (strE.cells y) (by rfl) hN (strE.one y) (by unfold maxLen; omega) (Nat.le_trans (Nat.mul_le_mul hlen hbytes) (by decide)) hbase
      have hc2 := run_append_room_cells (P := P) w t p.type e i ht hi g 0 (o + n) (o + c) ⟨q, 0, none⟩ 1 1 (strE.cells y) (by rw [hsize]; rfl) hN (strE.one y) (by omega) ?_ ?_
      · rw [hc2] at hr1
        cases hr1
        rw [hsize, show 0 + (o + n) * 1 = o + n * 1 by omega] at r2
        unfold GL
        rw [show (pre ++ (l ++ [y])).length = o + n + 1 by simp [h6, h3]; omega, ← List.append_assoc, List.flatMap_append, show [y].flatMap strE.cells = strE.cells y by simp]
        exact r2
      all_goals
        intro j hj
        have hj0 : j = 0 := by simp [strE] at hj; omega
        subst hj0
        rw [hsize]
      · rcases h7.own.2.2 with ⟨e1, _⟩ | ⟨g1, cap, cur, e1, _, hg, hnc, hcm, hcs, _⟩
        · cases e1
        · cases e1
          rw [cell_of_row w g _ cur e (0, 0) hg]
          rw [Array.getElem?_eq_getElem (by rw [hcs]; show _ < _ * 1; omega)]
          rfl
      · exact h7.free _
    · omega
  · intro hg v' w' r1 r2
    rcases r1.2 with ⟨_, h0⟩ | ⟨g1, cap, cur, rfl, hb1, hg1, hnc, _⟩
    · omega
    · have hsz := r2.size
      have hGL : GL strE e w.heap.size w' (.slice (some ⟨g1, 0, none⟩) (n + 1) cap) (l ++ [y]) := by
        unfold GL
        rw [List.flatMap_append, List.length_append, h3, List.length_singleton, show [y].flatMap strE.cells = strE.cells y by simp]
        exact r1
      have hlt := (Array.getElem?_eq_some_iff.1 hg1).1
      refine h g1 0 cap w' ?_ ⟨r2.os, r2.tape, r2.output, r2.size, fun k hk _ => r2.block k hk (by simp)⟩ (.inr hb1) (Nat.zero_le _)
      obtain ⟨t1, t2, t3, t4, t5⟩ := TL.of_gl (hGL.mono hbase)
      exact ⟨t1, t2, t3, t4, t5⟩
end Go.Proofs.Ytepegiklnhoobaa
