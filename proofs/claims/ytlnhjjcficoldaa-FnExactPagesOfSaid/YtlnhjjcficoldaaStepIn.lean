/- A push, an append of a list, as one step of a region inside a fence, whatever order it draws. -/
import Derived.Test.YtlnhjjcficoldaaPagesC
namespace Go.Proofs.Ytlnhjjcficoldaa
set_option linter.unusedVariables false
set_option linter.unusedSimpArgs false
set_option linter.unusedSectionVars false
open Go.RowKit Go.Shelf

theorem step_pushO_in {F : Fence} {nf : Nat} {P : Program} {α : Type} (E : Enc α) {ops : Array Oper} {o : Oper} {a : Act} {w : World} {K : Act → World → Prop} {Q : Exit → Act → World → Prop} {G : Prop} (hgd : o.guard = none) (s x : Operand) (t : TypeId)
    (ho : o.op = .call { callee := .builtin .append, args := #[s, x], argTypes := #[t, t] })
    (base : Nat) (e : TypeId) (i : TypeInfo) (z : Value) (bytes : Nat) (ht : P.underlying t = some (.slice e)) (hi : P.info? e = some i) (hz : i.zero = some z)
    (hsize : i.size = E.k) (hby : i.bytes = bytes) (hzs : z.cells.size = E.k)
    (A : Option Addr) (n c : Nat) (l : List α) (y : α) (hs : a.eval s = .slice A n c) (hgl : GL E e base w (.slice A n c) l)
    (g : Nat) (hx : a.eval x = .slice (some ⟨g, 0, none⟩) 1 1) (hnew : w.rangeAt g 0 (E.cells y))
    (hlen : n + 1 ≤ 8388608) (hbytes : bytes ≤ 4096) (hbase : base ≤ w.heap.size)
    (h : ∀ A' c' w', GL E e base w' (.slice A' (n + 1) c') (l ++ [y]) → Touch (fun k => Value.ownBlock (.slice A n c) = some k) w w' → (∀ k, Value.ownBlock (.slice A' (n + 1) c') = some k → Value.ownBlock (.slice A n c) = some k ∨ w.heap.size ≤ k) → K (a.put o.dst (.slice A' (n + 1) c')) w') : if Region.wanted o (yielded ops a.tmps) = true then Oper.wpIn F nf P o a w K Q else G := by
  have hw : Region.wanted o (yielded ops a.tmps) = true := by simp [Region.wanted, hgd]
  rw [if_pos hw]
  have hol := hgl.own
  obtain ⟨v', w', hr, h2, h3, h4⟩ := run_push_block (P := P) (w := w) base t o.type e i z E.k bytes ht hi hz hsize hby hzs E.pos (.slice A n c) n (l.flatMap E.cells) hol.2 ⟨g, 0, none⟩ 1 (E.cells y) (by rw [E.len, Nat.one_mul])
    (fun j u hu => by have := hnew j u hu; rw [Nat.zero_add] at this; rw [addr_add, Nat.zero_add]; exact this) (E.one y) (by unfold maxLen; omega) (Nat.le_trans (Nat.mul_le_mul hlen hbytes) (by decide)) hbase
  have hv : ∃ A' c', v' = .slice A' (n + 1) c' := by
    rcases h2.2 with ⟨rfl, h0⟩ | ⟨g', cap, cur, rfl, _⟩
    · exact absurd h0 (by omega)
    · exact ⟨_, _, rfl⟩
  obtain ⟨A', c', rfl⟩ := hv
  unfold Oper.wpIn
  refine ⟨?_, ?_⟩
  · simp [Oper.about, ho, resolve, Target.leads, Sem.run_pure]
  · rw [Oper.semAt_plain F _ _ (by rw [ho]; intro c hc'; cases hc')]
    simp [execOp, ho, resolve, invoke, builtin, hs, hx, hr, Result.andThen]
    refine (h A' c' w' ?_ ⟨h3.os, h3.tape, h3.output, h3.size, fun k hk hnF => h3.block k hk fun e' => hnF e'.symm⟩ fun k hk => ?_)
    · unfold GL
      rw [List.flatMap_append]
      simpa [hol.1] using h2
    · rcases h4 k hk with h' | rfl
      · exact .inl h'
      · exact .inr (Nat.le_refl _)

theorem step_pushL_in {F : Fence} {nf : Nat} {P : Program} {α : Type} (E : Enc α) {ops : Array Oper} {o : Oper} {a : Act} {w : World} {K : Act → World → Prop} {Q : Exit → Act → World → Prop} {G : Prop} (hgd : o.guard = none) (s x : Operand) (t : TypeId)
    (ho : o.op = .call { callee := .builtin .append, args := #[s, x], argTypes := #[t, t] })
    (base : Nat) (e : TypeId) (i : TypeInfo) (z : Value) (bytes : Nat) (ht : P.underlying t = some (.slice e)) (hi : P.info? e = some i) (hz : i.zero = some z)
    (hsize : i.size = E.k) (hby : i.bytes = bytes) (hzs : z.cells.size = E.k)
    (v : Value) (l ys : List α) (hs : a.eval s = v) (hgl : GL E e base w v l)
    (ad : Addr) (m c : Nat) (hx : a.eval x = .slice (some ad) m c) (hm : ys.length = m) (hsrc : ∀ j u, (ys.flatMap E.cells)[j]? = some u → w.cell? (ad.add j) = some u)
    (hlen : l.length + m ≤ 8388608) (hbytes : bytes ≤ 4096) (hbase : base ≤ w.heap.size)
    (h : ∀ A' c' w', GL E e base w' (.slice A' (l.length + m) c') (l ++ ys) → w.grownBy w' v.ownBlock → K (a.put o.dst (.slice A' (l.length + m) c')) w') : if Region.wanted o (yielded ops a.tmps) = true then Oper.wpIn F nf P o a w K Q else G := by
  have hw : Region.wanted o (yielded ops a.tmps) = true := by simp [Region.wanted, hgd]
  rw [if_pos hw]
  obtain ⟨v', w', hrun, r1, r2, r3⟩ := run_append_own (P := P) w base t o.type e i z E.k bytes ht hi hz hsize hby hzs E.pos v l.length (l.flatMap E.cells) hgl ad m c (ys.flatMap E.cells) (by rw [flat_len, hm])
    hsrc (fun u hu => by obtain ⟨y, _, hy⟩ := List.mem_flatMap.1 hu; exact E.one y u hy) (by unfold maxLen; omega) (Nat.le_trans (Nat.mul_le_mul hlen hbytes) (by decide)) hbase
  have h4 : GL E e base w' v' (l ++ ys) := by
    unfold GL
    rw [List.length_append, List.flatMap_append, hm]
    exact r1
  obtain ⟨A', c', e'⟩ := h4.form
  rw [List.length_append, hm] at e'
  subst e'
  unfold Oper.wpIn
  refine ⟨?_, ?_⟩
  · simp [Oper.about, ho, resolve, Target.leads, Sem.run_pure]
  · rw [Oper.semAt_plain F _ _ (by rw [ho]; intro c hc'; cases hc')]
    simp [execOp, ho, resolve, invoke, builtin, hs, hx, hrun, Result.andThen]
    exact h A' c' w' h4 r2
end Go.Proofs.Ytlnhjjcficoldaa
