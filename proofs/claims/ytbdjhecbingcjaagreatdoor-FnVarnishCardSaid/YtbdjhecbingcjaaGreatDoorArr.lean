/- Laws on append, copy and clear where an element takes several cells. -/
import Derived.Test.YtbdjhecbingcjaaGreatDoorRows
import Derived.Test.YtbdjhecbingcjaaGreatDoorMem
import Derived.Test.YtbdjhecbingcjaaGreatDoorGrow
import Derived.Deep.RegionLaw
import Derived.Lib.AppendZerosOnto
import Derived.ArgAppend
namespace Go.Proofs.YtbdjhecbingcjaaGreatDoor
set_option linter.unusedVariables false
set_option linter.unusedSimpArgs false
set_option linter.unusedSectionVars false
open Go.RowKit

section
variable {α : Type} {E : Enc α} {et : TypeId} {base : Nat} {w w' w0 : World} {g n c : Nat} {zs : List α}
theorem GL.len {A : Option Addr} (h : GL E et base w (.slice A n c) zs) : zs.length = n := h.own.1
theorem GL.cap {A : Option Addr} (h : GL E et base w (.slice A n c) zs) : n ≤ c ∧ c ≤ maxLen := by
  rcases h.own.2.2 with ⟨e, h0⟩ | ⟨g, cap, cur, e, _, _, hnc, hcm, _⟩
  · cases e; exact ⟨by omega, by decide⟩
  · cases e; exact ⟨hnc, hcm⟩
theorem GL.cell (h : GL E et base w (.slice (some ⟨g, 0, none⟩) n c) zs) {j : Nat} (hj : j < n * E.k) : (w.cell? ⟨g, j, none⟩).isSome = true := by
  obtain ⟨u, hu⟩ := own_cell h.own.2 hj
  rw [hu]; rfl
theorem GL.free (h : GL E et base w (.slice (some ⟨g, 0, none⟩) n c) zs) (j : Nat) : w.frozen? ⟨g, j, none⟩ = false := h.own.2.frozenAt j
theorem GL.baseLe (h : GL E et base w (.slice (some ⟨g, 0, none⟩) n c) zs) : base ≤ g := h.low g rfl
theorem GL.mono {base' : Nat} {v : Value} (h : GL E et base w v zs) (hb : base' ≤ base) : GL E et base' w v zs := by
  refine ⟨h.1, ?_⟩
  rcases h.2 with h1 | ⟨g, cap, cur, e, h1, r⟩
  · exact .inl h1
  · exact .inr ⟨g, cap, cur, e, Nat.le_trans hb h1, r⟩
theorem flat_drop (l : List α) (i : Nat) : (l.flatMap E.cells).drop (i * E.k) = (l.drop i).flatMap E.cells := by
  induction l generalizing i with
  | nil => simp
  | cons x l ih =>
    cases i with
    | zero => simp
    | succ i =>
      rw [List.flatMap_cons, List.drop_append, Nat.succ_mul, E.len, List.drop_of_length_le (by rw [E.len]; omega), Nat.add_sub_cancel, ih]
      rfl
theorem flat_take (l : List α) (i : Nat) : (l.flatMap E.cells).take (i * E.k) = (l.take i).flatMap E.cells := by
  induction l generalizing i with
  | nil => simp
  | cons x l ih =>
    cases i with
    | zero => simp
    | succ i =>
      rw [List.flatMap_cons, List.take_append, Nat.succ_mul, E.len, List.take_of_length_le (by rw [E.len]; omega), Nat.add_sub_cancel, ih]
      rfl
/-- the elements from place i on lie there -/
theorem GL.range (h : GL E et base w (.slice (some ⟨g, 0, none⟩) n c) zs) (i : Nat) : w.rangeAt g (i * E.k) ((zs.drop i).flatMap E.cells) := fun j v hv => by
  rw [← flat_drop, List.getElem?_drop] at hv
  have hj : i * E.k + j < n * E.k := by
    have := (List.getElem?_eq_some_iff.1 hv).1
    rw [flat_len, h.len] at this
    exact this
  exact (h.own.2.cellAt _ hj).trans hv
theorem GL.splice (h : GL E et base w (.slice (some ⟨g, 0, none⟩) n c) zs) (i : Nat) (vs : List α) (hi : i + vs.length ≤ n) :
    GL E et base (w.setCells g (i * E.k) (vs.flatMap E.cells)) (.slice (some ⟨g, 0, none⟩) n c) (zs.take i ++ vs ++ zs.drop (i + vs.length)) := by
  have hl := h.len
  have h1 := own_setCells (vs.flatMap E.cells) (i * E.k) h.own.2
  have e : zs = zs.take i ++ (zs.drop i).take vs.length ++ zs.drop (i + vs.length) := by
    rw [List.append_assoc, ← List.drop_drop, List.take_append_drop, List.take_append_drop]
  have e2 : setsAt (zs.flatMap E.cells) (i * E.k) (vs.flatMap E.cells) = (zs.take i ++ vs ++ zs.drop (i + vs.length)).flatMap E.cells := by
    conv => lhs; rw [e]
    rw [List.flatMap_append, List.flatMap_append, List.flatMap_append, List.flatMap_append]
    rw [show i * E.k = ((zs.take i).flatMap E.cells).length by rw [flat_len, List.length_take, Nat.min_eq_left (by omega)]]
    exact setsAt_mid _ _ _ _ (by rw [flat_len, flat_len, List.length_take, List.length_drop, Nat.min_eq_left (by omega)])
  rw [e2] at h1
  unfold GL
  rw [show (zs.take i ++ vs ++ zs.drop (i + vs.length)).length = n by simp; omega]
  exact h1
theorem GL.cut (h : GL E et base w (.slice (some ⟨g, 0, none⟩) n c) zs) (m : Nat) (hm : m ≤ n) : GL E et base w (.slice (some ⟨g, 0, none⟩) m c) (zs.take m) := by
  have hl := h.len
  unfold GL
  rw [show (zs.take m).length = m by rw [List.length_take]; omega]
  refine ⟨by rw [flat_len, List.length_take]; congr 1; omega, ?_⟩
  rcases h.own.2.2 with ⟨e, h0⟩ | ⟨g', cap, cur, e, h1, h2, h3, h4, h5, h6⟩
  · cases e
  · cases e
    refine .inr ⟨g, c, cur, rfl, h1, h2, by omega, h4, h5, ?_⟩
    rw [← flat_take, ← h6, List.take_take, Nat.min_eq_left (Nat.mul_le_mul_right _ hm)]
end

section
variable {P : Program} {w : World}
/-- copy of k-cell elements into a row -/
theorem run_copy_k (dT sT ty elem : TypeId) (hu : P.underlying dT = some (.slice elem)) (i : TypeInfo) (hi : P.info? elem = some i) (b o dLen dCap : Nat) (ad : Addr) (sLen sCap m : Nat) (cs : List Value) (hm : m = Nat.min sLen dLen) (hl : cs.length = m * i.size)
    (hsrc : ∀ j v, cs[j]? = some v → w.cell? (ad.add j) = some v) (h1 : ∀ v ∈ cs, v.oneCell' = true) (hc : ∀ j, j < cs.length → (w.cell? ⟨b, o + j, none⟩).isSome = true) (hf : ∀ j, j < cs.length → w.frozen? ⟨b, o + j, none⟩ = false) :
    (Builtin.copy_ #[dT, sT] ty #[.slice (some ⟨b, o, none⟩) dLen dCap, .slice (some ad) sLen sCap]).run P w = .ok (goInt m) (w.setCells b o cs) := by
  have hlo := run_loadCells_list (P := P) w ad cs hsrc
  have hst := run_storeCells_cells (P := P) b o cs 0 w (by simpa using hc) (by simpa using hf) h1
  simp only [Nat.add_zero] at hst
  simp [Builtin.copy_, run_underlying hu, Builtin.lenOf, Builtin.firstCells, sizeOf, typeInfo, hi, ← hm, ← hl, hlo, hst]
/-- clear of one element -/
theorem run_clear_one (t e ty : TypeId) (z : Value) (ht : P.underlying t = some (.slice e)) (hv : ∀ w, (zeroValue e).run P w = .ok z w) (cs : List Value) (hz : (Builtin.zeroCells z.cells 1).toList = cs) (h1 : ∀ v ∈ cs, v.oneCell' = true) (b o c : Nat)
    (hc : ∀ j, j < cs.length → (w.cell? ⟨b, o + j, none⟩).isSome = true) (hf : ∀ j, j < cs.length → w.frozen? ⟨b, o + j, none⟩ = false) :
    (Builtin.clear_ #[t] ty #[.slice (some ⟨b, o, none⟩) 1 c]).run P w = .ok (.tuple #[]) (w.setCells b o cs) := by
  have hst := run_storeCells_cells (P := P) b o cs 0 w (by simpa using hc) (by simpa using hf) h1
  simp only [Nat.add_zero] at hst
  simp [Builtin.clear_, run_underlying ht, hv, hz, hst]
theorem run_append_none (base : Nat) (t ty e : TypeId) (i : TypeInfo) (size : Nat) (ht : P.underlying t = some (.slice e)) (hi : P.info? e = some i)
    (v : Value) (n : Nat) (xs : List Value) (hown : w.ownsRow base e size v n xs) (c : Nat) :
    (Builtin.append_ #[t, t] ty #[v, .slice none 0 c]).run P w = .ok v w := by
  rcases hown.2 with ⟨rfl, rfl⟩ | ⟨g, cap, cur, rfl, _, _, hnc, _⟩
  · simp [Builtin.append_, run_underlying ht, sizeOf, typeInfo, hi, Builtin.lenOf, Builtin.firstCells]
  · simp [Builtin.append_, run_underlying ht, sizeOf, typeInfo, hi, Builtin.lenOf, Builtin.firstCells, hnc, storeCells]
end

/-- append of a list -/
theorem wpList_pushL {P : Program} {α : Type} (E : Enc α) {ops : Array Oper} {rest : List Oper} {o : Oper} {a : Act} {w : World} {Q : Exit → Act → World → Prop} (hgd : o.guard = none) (s x : Operand) (t : TypeId)
    (ho : o.op = .call { callee := .builtin .append, args := #[s, x], argTypes := #[t, t] })
    (base : Nat) (e : TypeId) (i : TypeInfo) (z : Value) (bytes : Nat) (ht : P.underlying t = some (.slice e)) (hi : P.info? e = some i) (hz : i.zero = some z)
    (hsize : i.size = E.k) (hby : i.bytes = bytes) (hzs : z.cells.size = E.k)
    (v : Value) (l ys : List α) (hs : a.eval s = v) (hgl : GL E e base w v l)
    (A : Option Addr) (m c : Nat) (hx : a.eval x = .slice A m c) (hm : ys.length = m) (hA : A = none → m = 0) (hsrc : 0 < m → ∃ ad, A = some ad ∧ ∀ j u, (ys.flatMap E.cells)[j]? = some u → w.cell? (ad.add j) = some u)
    (n0 : Nat) (h0 : l.length + m = n0) (r : List α) (hr0 : l ++ ys = r) (hlen : n0 ≤ 8388608) (hbytes : bytes ≤ 4096) (w0 : World) (hb : Below base w0 w) (hbase : base ≤ w.heap.size)
    (h : ∀ A' c' w', GL E e base w' (.slice A' n0 c') r → n0 ≤ c' → Below base w0 w' → base ≤ w'.heap.size → wpList P ops Q rest (a.put o.dst (.slice A' n0 c')) w') : wpList P ops Q (o :: rest) a w := by
  subst h0 hr0
  have key : ∀ v' w', w'.ownsRow base e E.k v' (l.length + m) (l.flatMap E.cells ++ ys.flatMap E.cells) → w.grownBy w' v.ownBlock → wpList P ops Q rest (a.put o.dst v') w' := fun v' w' h2 h3 => by
    have h4 : GL E e base w' v' (l ++ ys) := by
      unfold GL
      rw [List.length_append, List.flatMap_append, hm]
      exact h2
    obtain ⟨A', c', e'⟩ := h4.form
    rw [List.length_append, hm] at e'
    subst e'
    exact h A' c' w' h4 h4.cap.1 (hgl.grown hb hbase h3) (Nat.le_trans hbase h3.size)
  cases A with
  | some ad =>
    refine wpList_append_own w hgd s x t ho base e i z E.k bytes ht hi hz hsize hby hzs E.pos v l.length (l.flatMap E.cells) hs hgl ad m c (ys.flatMap E.cells) hx (by rw [flat_len, hm])
      (fun j u hu => ?_) (fun u hu => by obtain ⟨y, _, hy⟩ := List.mem_flatMap.1 hu; exact E.one y u hy) (by unfold maxLen; omega)
      (Nat.le_trans (Nat.mul_le_mul hlen hbytes) (by decide)) hbase fun v' w' h2 h3 _ => key v' w' h2 h3
    have hpos : 0 < m := by
      rcases Nat.eq_zero_or_pos m with h0 | h0
      · rw [h0] at hm
        rw [List.eq_nil_of_length_eq_zero hm] at hu
        simp at hu
      · exact h0
    obtain ⟨ad', e', h'⟩ := hsrc hpos
    cases e'
    exact h' j u hu
  | none =>
    obtain rfl := hA rfl
    have hys : ys = [] := List.eq_nil_of_length_eq_zero hm
    subst hys
    refine wpList_plain hgd fun K hK => ?_
    have hrun := run_append_none (P := P) (w := w) base t o.type e i E.k ht hi v l.length (l.flatMap E.cells) hgl c
    unfold Oper.wp
    simp [execOp, ho, resolve, invoke, builtin, hs, hx, hrun, Result.andThen]
    have := key v w (by simpa [GL] using hgl) ⟨rfl, rfl, rfl, Nat.le_refl _, fun _ _ _ => rfl⟩
    exact hK _ _ this
/-- append of a list where there is room -/
theorem wpList_fitL {P : Program} {α : Type} (E : Enc α) {ops : Array Oper} {rest : List Oper} {o : Oper} {a : Act} {w : World} {Q : Exit → Act → World → Prop} (hgd : o.guard = none) (s x : Operand) (t : TypeId)
    (ho : o.op = .call { callee := .builtin .append, args := #[s, x], argTypes := #[t, t] })
    (base : Nat) (e : TypeId) (i : TypeInfo) (ht : P.underlying t = some (.slice e)) (hi : P.info? e = some i)
    (hsize : i.size = E.k)
    (g k cap : Nat) (l ys : List α) (hs : a.eval s = .slice (some ⟨g, 0, none⟩) k cap) (hgl : GL E e base w (.slice (some ⟨g, 0, none⟩) k cap) l)
    (A : Option Addr) (m c : Nat) (hx : a.eval x = .slice A m c) (hm : ys.length = m) (hA : A = none → m = 0) (hsrc : 0 < m → ∃ ad, A = some ad ∧ ∀ j u, (ys.flatMap E.cells)[j]? = some u → w.cell? (ad.add j) = some u)
    (hfit : k + m ≤ cap) (w0 : World) (hb : Below base w0 w) (hbase : base ≤ w.heap.size)
    (h : ∀ w', GL E e base w' (.slice (some ⟨g, 0, none⟩) (k + m) cap) (l ++ ys) → Below base w0 w' → base ≤ w'.heap.size → wpList P ops Q rest (a.put o.dst (.slice (some ⟨g, 0, none⟩) (k + m) cap)) w') : wpList P ops Q (o :: rest) a w := by
  have hk := hgl.len
  cases A with
  | some ad =>
    refine wpList_append_fits_any w hgd s x t ho base e i E.k ht hi hsize g k cap (l.flatMap E.cells) hs hgl.own.2 (some ad) m c (ys.flatMap E.cells) hx (by rw [flat_len, hm]) (fun h => by cases h)
      (fun ad' e' j u hu => ?_) (fun u hu => by obtain ⟨y, _, hy⟩ := List.mem_flatMap.1 hu; exact E.one y u hy) hfit fun w' h2 h3 => ?_
    · have hpos : 0 < m := by
        rcases Nat.eq_zero_or_pos m with h0 | h0
        · rw [h0] at hm
          rw [List.eq_nil_of_length_eq_zero hm] at hu
          simp at hu
        · exact h0
      obtain ⟨ad2, e2, h'⟩ := hsrc hpos
      cases e'; cases e2
      exact h' j u hu
    · refine h w' ?_ (hgl.grown hb hbase h3) (Nat.le_trans hbase h3.size)
      unfold GL
      rw [List.length_append, List.flatMap_append, hm, hk]
      exact h2
  | none =>
    obtain rfl := hA rfl
    have hys : ys = [] := List.eq_nil_of_length_eq_zero hm
    subst hys
    refine wpList_plain hgd fun K hK => ?_
    have hrun := run_append_none (P := P) (w := w) base t o.type e i E.k ht hi _ k (l.flatMap E.cells) hgl.own.2 c
    unfold Oper.wp
    simp [execOp, ho, resolve, invoke, builtin, hs, hx, hrun, Result.andThen]
    have := h w (by simpa using hgl) hb hbase
    exact hK _ _ this
/-- what clone leaves: a row without room -/
def RetClone {α : Type} (E : Enc α) (et : TypeId) (l : List α) (n : Nat) (w : World) (e : Ending) (w' : World) : Prop :=
  ∃ g, e = .returned (.slice (some ⟨g, 0, none⟩) n n) ∧ GL E et w.heap.size w' (.slice (some ⟨g, 0, none⟩) n n) l ∧ Below w.heap.size w w'
theorem OL.capLe {α : Type} {E : Enc α} {et : TypeId} {F : Nat → Prop} {w : World} {A : Option Addr} {n c : Nat} {l : List α} (h : OL E et F w A n c l) : n ≤ c := by
  rcases h.1.2 with ⟨e, h0⟩ | ⟨g, cap, cur, e, _, _, hnc, _⟩
  · cases e; omega
  · cases e; exact hnc
theorem Rd.noneLen {α : Type} {E : Enc α} {w : World} {A : Option Addr} {n : Nat} {l : List α} (h : Rd E w A n l) (hA : A = none) : n = 0 := by
  rcases Nat.eq_zero_or_pos n with h0 | h0
  · exact h0
  · obtain ⟨b, off, e, _⟩ := h.2 h0
    rw [hA] at e; cases e
theorem Rd.src {α : Type} {E : Enc α} {w : World} {A : Option Addr} {n : Nat} {l : List α} (h : Rd E w A n l) (hn : 0 < n) : ∃ ad, A = some ad ∧ ∀ j u, (l.flatMap E.cells)[j]? = some u → w.cell? (ad.add j) = some u := by
  obtain ⟨b, off, e, hc⟩ := h.2 hn
  refine ⟨_, e, fun j u hu => ?_⟩
  rw [addr_add]
  have hj : j < l.length * E.k := by have := (List.getElem?_eq_some_iff.1 hu).1; rwa [flat_len] at this
  obtain ⟨x, hx⟩ : ∃ x, l[j / E.k]? = some x := ⟨_, List.getElem?_eq_getElem (Nat.div_lt_of_lt_mul (by rw [Nat.mul_comm]; exact hj))⟩
  have hq := hc _ x hx (j % E.k) u (by
    obtain ⟨v, hv⟩ : ∃ v, (E.cells x)[j % E.k]? = some v := ⟨_, List.getElem?_eq_getElem (by rw [E.len]; exact Nat.mod_lt _ E.pos)⟩
    have := flat_get E l _ x hx _ v hv
    rw [Nat.div_add_mod'] at this
    rw [hv, ← this, hu])
  rw [Nat.add_assoc, Nat.div_add_mod'] at hq
  exact hq
theorem Rd.drop {α : Type} {E : Enc α} {w : World} {b off n : Nat} {l : List α} (h : Rd E w (some ⟨b, off, none⟩) n l) (i : Nat) (hi : i < n) : Rd E w (some ⟨b, off + i * E.k, none⟩) (n - i) (l.drop i) := by
  obtain ⟨b', off', e, hc⟩ := h.2 (by omega)
  cases e
  refine ⟨by rw [List.length_drop, h.1], fun _ => ⟨b, _, rfl, fun k x hx => ?_⟩⟩
  rw [List.getElem?_drop] at hx
  have := hc _ x hx
  rwa [Nat.add_mul, ← Nat.add_assoc] at this
theorem Rd.take {α : Type} {E : Enc α} {w : World} {A : Option Addr} {n : Nat} {l : List α} (h : Rd E w A n l) (i : Nat) (hi : i ≤ n) : Rd E w A i (l.take i) := by
  refine ⟨by rw [List.length_take, h.1]; omega, fun h0 => ?_⟩
  obtain ⟨b', off', e, hc⟩ := h.2 (by omega)
  refine ⟨b', off', e, fun k x hx => hc k x ?_⟩
  rw [List.getElem?_take] at hx
  split at hx
  · exact hx
  · cases hx
end Go.Proofs.YtbdjhecbingcjaaGreatDoor
