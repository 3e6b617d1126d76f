/- append of a fresh row, and copy, as slices.Insert has them. -/
import Derived.Test.YtfabijhilfjkcaaRows
import Derived.Test.YtfabijhilfjkcaaArr
namespace Go.Proofs.Ytfabijhilfjkcaa
set_option linter.unusedVariables false
set_option linter.unusedSimpArgs false
set_option linter.unusedSectionVars false
open Go.RowKit

section
variable {α : Type} {E : Enc α} {et : TypeId} {base : Nat} {w w' w0 : World} {g n c : Nat} {zs : List α}
theorem GL.ext (h : GL E et base w (.slice (some ⟨g, 0, none⟩) n c) zs) (hb : Below w.heap.size w w') : GL E et base w' (.slice (some ⟨g, 0, none⟩) n c) zs := h.below hb
theorem zero_cells {z : Value} {zd : α} (hzd : E.cells zd = z.cells.toList) (k : Nat) : Builtin.zeroCells z.cells k = ((List.replicate k zd).flatMap E.cells).toArray := by
  have hz : z.cells.size = E.k := by rw [← E.len zd, hzd]; simp
  have := toList_madeCells E (z := z.cells) hzd k
  rw [← hz] at this
  rw [← this, Array.toArray_toList]
  rfl
end

theorem ins_list {α : Type} (l : List α) (i r : Nat) (hl : l.length = i + r) (y z : α) :
    (List.take (i + 1) (List.take i (List.take i l ++ List.replicate (r + 1) z) ++ [y] ++ List.drop (i + [y].length) (List.take i l ++ List.replicate (r + 1) z)) ++ l.drop i ++
      List.drop (i + 1 + (l.drop i).length) (List.take i (List.take i l ++ List.replicate (r + 1) z) ++ [y] ++ List.drop (i + [y].length) (List.take i l ++ List.replicate (r + 1) z))) = l.take i ++ [y] ++ l.drop i := by
  have h1 : (l.take i).length = i := by rw [List.length_take, hl]; omega
  have h2 : List.take i (List.take i l ++ List.replicate (r + 1) z) = l.take i := by rw [List.take_append_of_le_length (Nat.le_of_eq h1.symm), List.take_take, Nat.min_self]
  have h3 : (l.drop i).length = r := by rw [List.length_drop, hl]; omega
  have h4 : (List.drop (i + [y].length) (List.take i l ++ List.replicate (r + 1) z)).length = r := by
    rw [List.length_drop, List.length_append, h1, List.length_replicate]
    simp
    omega
  have h5 : (l.take i ++ [y]).length = i + 1 := by rw [List.length_append, h1]; rfl
  rw [h2, h3]
  generalize List.drop (i + [y].length) (List.take i l ++ List.replicate (r + 1) z) = D at h4
  generalize l.take i ++ [y] = B at h5
  rw [List.take_append_of_le_length (Nat.le_of_eq h5.symm), List.take_of_length_le (Nat.le_of_eq h5), show List.drop (i + 1 + r) (B ++ D) = [] from List.drop_of_length_le (by rw [List.length_append, h4, h5]; omega), List.append_nil]

theorem wpList_zerosL {P : Program} {α : Type} (E : Enc α) {ops : Array Oper} {rest : List Oper} {o : Oper} {a : Act} {w : World} {Q : Exit → Act → World → Prop} (hgd : o.guard = none) (s x : Operand) (t tn : TypeId)
    (ho : o.op = .call { callee := .builtin .append, args := #[s, x], argTypes := #[t, tn] })
    (base : Nat) (e : TypeId) (i : TypeInfo) (z : Value) (bytes : Nat) (kn kq : IntKind) (ht : P.underlying t = some (.slice e)) (htn : P.underlying tn = some (.int kn)) (hi : P.info? e = some i) (hz : i.zero = some z)
    (hsize : i.size = E.k) (hby : i.bytes = bytes) (zd : α) (hzd : E.cells zd = z.cells.toList)
    (g p k n : Nat) (l : List α) (K : Int) (hs : a.eval s = .slice (some ⟨g, 0, none⟩) p n) (hx : a.eval x = .int kq K) (hK : K = (k : Int)) (hgl : GL E e base w (.slice (some ⟨g, 0, none⟩) n n) l) (hp : p ≤ n) (hk : n < p + k) (h0 : 0 < k)
    (n0 : Nat) (hn0 : p + k = n0) (r0 : List α) (hr0 : l.take p ++ List.replicate k zd = r0) (hlen : n0 ≤ 8388608) (hbytes : bytes ≤ 4096) (hbase : base ≤ w.heap.size)
    (h : ∀ c' w', GL E e base w' (.slice (some ⟨w.heap.size, 0, none⟩) n0 c') r0 → Below w.heap.size w w' → n0 ≤ c' → w.heap.size < w'.heap.size → wpList P ops Q rest (a.put o.dst (.slice (some ⟨w.heap.size, 0, none⟩) n0 c')) w') : wpList P ops Q (o :: rest) a w := by
  subst hK hn0 hr0
  have hl := hgl.len
  refine wpList_plain hgd fun K hK => ?_
  have hzs : z.cells.size = E.k := by rw [← E.len zd, hzd]; simp
  have hold : (Builtin.firstCells i.size p (.slice (some ⟨g, 0, none⟩) p n)).run P w.drew = .ok ((l.take p).flatMap E.cells).toArray w.drew :=
    run_firstCells_some (P := P) w.drew i.size p ⟨g, 0, none⟩ p n _ (by rw [flat_len, hsize, List.length_take]; congr 1; omega) (fun j u hu => by
      rw [addr_add]
      rw [← flat_take] at hu
      have hj := (List.getElem?_eq_some_iff.1 hu).1
      rw [List.getElem?_take] at hu
      split at hu
      · have := hgl.drew.range 0 j u (by simpa using hu)
        simpa using this
      · cases hu)
  have hb1 : (p + k) * i.bytes ≤ 140737488355328 := by rw [hby]; exact Nat.le_trans (Nat.mul_le_mul hlen hbytes) (by decide)
  have hrun := Lib.run_append_grow_zeros (P := P) w t tn o.type e i z kq kn ht htn hi hz (some ⟨g, 0, none⟩) p n _ hold k h0 (by rw [hsize]; exact E.pos) hk (by omega)
    (Nat.le_trans (Nat.mul_le_mul_right _ (Nat.le_add_left k p)) (by omega)) (growslice_fits (by omega) hb1)
  have hge := grownCap_ge w (p + k) n e
  have hcm : grownCap w (p + k) n e ≤ maxLen := grownCap_le_maxLen w (p + k) n e (by unfold maxLen; omega)
  have hlp : (l.take p ++ List.replicate k zd).length = p + k := by simp; omega
  unfold Oper.wp
  simp only [execOp, ho, resolve, invoke, builtin, Sem.run_bind, Sem.run_pure, Result.andThen_ok, List.map_toArray, List.map_cons, List.map_nil, hs, hx, hrun]
  refine hK _ _ (h _ _ ?_ ⟨rfl, rfl, rfl, by simp, fun k' hk' => heap_alloc_old w.drew _ hk'⟩ hge (by simp))
  unfold GL
  rw [hlp]
  refine ⟨by rw [flat_len, hlp], .inr ⟨w.heap.size, _, _, rfl, hbase, heap_alloc_new w.drew _, hge, hcm, ?_, ?_⟩⟩
  · simp only [Array.size_append, List.size_toArray, size_zeroCells, hzs, flat_len, List.length_take]
    rw [Nat.min_eq_left (by omega), ← Nat.add_mul, ← Nat.add_mul]
    congr 1
    omega
  · rw [zero_cells hzd]
    simp only [Array.toList_append, List.append_assoc]
    rw [← List.append_assoc, ← List.flatMap_append, ← hlp, ← flat_len E]
    exact List.take_left

/-- copy of elements into a row of the call's own -/
theorem wpList_copyL {P : Program} {α : Type} (E : Enc α) {ops : Array Oper} {rest : List Oper} {o : Oper} {a : Act} {w : World} {Q : Exit → Act → World → Prop} (hgd : o.guard = none) (d s : Operand) (t : TypeId)
    (ho : o.op = .call { callee := .builtin .copy, args := #[d, s], argTypes := #[t, t] })
    (base : Nat) (e : TypeId) (i : TypeInfo) (ht : P.underlying t = some (.slice e)) (hi : P.info? e = some i) (hsize : i.size = E.k)
    (g n c p dLen dCap m sCap : Nat) (l ys : List α) (ad : Addr) (hd : a.eval d = .slice (some ⟨g, p * E.k, none⟩) dLen dCap) (hs : a.eval s = .slice (some ad) m sCap)
    (hgl : GL E e base w (.slice (some ⟨g, 0, none⟩) n c) l) (hm : ys.length = m) (hfit : m ≤ dLen) (hpn : p + m ≤ n) (hsrc : ∀ j u, (ys.flatMap E.cells)[j]? = some u → w.cell? (ad.add j) = some u)
    (h : wpList P ops Q rest (a.put o.dst (goInt m)) (w.setCells g (p * E.k) (ys.flatMap E.cells))) : wpList P ops Q (o :: rest) a w := by
  refine wpList_plain hgd fun K hK => ?_
  have hr := run_copy_k (P := P) (w := w) t t o.type e ht i hi g (p * E.k) dLen dCap ad m sCap m (ys.flatMap E.cells) (Nat.min_eq_left hfit).symm (by rw [flat_len, hm, hsize]) hsrc
    (fun u hu => by obtain ⟨y, _, hy⟩ := List.mem_flatMap.1 hu; exact E.one y u hy)
    (fun j hj => by rw [flat_len, hm] at hj; exact hgl.cell (Nat.lt_of_lt_of_le (show p * E.k + j < (p + m) * E.k by rw [Nat.add_mul]; omega) (Nat.mul_le_mul_right _ hpn))) (fun j hj => hgl.free _)
  unfold Oper.wp
  simp only [execOp, ho, resolve, invoke, builtin, Sem.run_bind, Sem.run_pure, Result.andThen_ok, List.map_toArray, List.map_cons, List.map_nil, hd, hs, hr]
  exact hK _ _ h
theorem step_copyL {P : Program} {α : Type} (E : Enc α) {ops : Array Oper} {o : Oper} {a : Act} {w : World} {K : Act → World → Prop} {Q : Exit → Act → World → Prop} {EE : Prop} (hgd : o.guard = none) (d s : Operand) (t : TypeId)
    (ho : o.op = .call { callee := .builtin .copy, args := #[d, s], argTypes := #[t, t] })
    (base : Nat) (e : TypeId) (i : TypeInfo) (ht : P.underlying t = some (.slice e)) (hi : P.info? e = some i) (hsize : i.size = E.k)
    (g n c p dLen dCap m sCap : Nat) (l ys : List α) (ad : Addr) (hd : a.eval d = .slice (some ⟨g, p * E.k, none⟩) dLen dCap) (hs : a.eval s = .slice (some ad) m sCap)
    (hgl : GL E e base w (.slice (some ⟨g, 0, none⟩) n c) l) (hm : ys.length = m) (hfit : m ≤ dLen) (hpn : p + m ≤ n) (hsrc : ∀ j u, (ys.flatMap E.cells)[j]? = some u → w.cell? (ad.add j) = some u)
    (h : K (a.put o.dst (goInt m)) (w.setCells g (p * E.k) (ys.flatMap E.cells))) : if Region.wanted o (yielded ops a.tmps) = true then Oper.wp P o a w K Q else EE := by
  have hw : Region.wanted o (yielded ops a.tmps) = true := by simp [Region.wanted, hgd]
  rw [if_pos hw]
  have hr := run_copy_k (P := P) (w := w) t t o.type e ht i hi g (p * E.k) dLen dCap ad m sCap m (ys.flatMap E.cells) (Nat.min_eq_left hfit).symm (by rw [flat_len, hm, hsize]) hsrc
    (fun u hu => by obtain ⟨y, _, hy⟩ := List.mem_flatMap.1 hu; exact E.one y u hy)
    (fun j hj => by rw [flat_len, hm] at hj; exact hgl.cell (Nat.lt_of_lt_of_le (show p * E.k + j < (p + m) * E.k by rw [Nat.add_mul]; omega) (Nat.mul_le_mul_right _ hpn))) (fun j hj => hgl.free _)
  unfold Oper.wp
  simp only [execOp, ho, resolve, invoke, builtin, Sem.run_bind, Sem.run_pure, Result.andThen_ok, List.map_toArray, List.map_cons, List.map_nil, hd, hs, hr]
  exact h
end Go.Proofs.Ytfabijhilfjkcaa
