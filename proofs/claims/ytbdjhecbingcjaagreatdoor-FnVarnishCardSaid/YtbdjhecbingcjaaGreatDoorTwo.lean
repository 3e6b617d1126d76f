/- Several lists of the call's own that grow side by side. -/
import Derived.Test.YtbdjhecbingcjaaGreatDoorRows
import Derived.Test.YtbdjhecbingcjaaGreatDoorArr
import Derived.Test.YtbdjhecbingcjaaGreatDoorTouch
namespace Go.Proofs.YtbdjhecbingcjaaGreatDoor
set_option linter.unusedVariables false
set_option linter.unusedSimpArgs false
set_option linter.unusedSectionVars false
open Go.RowKit

def Apart (v1 v2 : Value) : Prop := ∀ k, v1.ownBlock = some k → v2.ownBlock ≠ some k
theorem Apart.symm {v1 v2 : Value} (h : Apart v1 v2) : Apart v2 v1 := fun k h1 h2 => h k h2 h1
theorem Apart.nil {v : Value} {n c : Nat} : Apart (.slice none n c) v := fun k h => by cases h
theorem Apart.len {A : Option Addr} {n n' c c' : Nat} {v : Value} (h : Apart (.slice A n c) v) : Apart (.slice A n' c') v := by rcases A with _ | ⟨b, o, p⟩ <;> exact h
theorem Apart.len2 {A : Option Addr} {n n' c c' : Nat} {v : Value} (h : Apart v (.slice A n c)) : Apart v (.slice A n' c') := by rcases A with _ | ⟨b, o, p⟩ <;> exact h
section
variable {α : Type} {E : Enc α} {et : TypeId} {base : Nat} {w w' : World} {A : Option Addr} {n c : Nat} {l : List α}
theorem GL.lt (h : GL E et base w (.slice A n c) l) : ∀ k, Value.ownBlock (.slice A n c) = some k → base ≤ k ∧ k < w.heap.size := h.own.2.lt
theorem GL.touch {F : Nat → Prop} (h : GL E et base w (.slice A n c) l) (ht : Touch F w w') (hF : ∀ k, Value.ownBlock (.slice A n c) = some k → ¬ F k) : GL E et base w' (.slice A n c) l := by
  unfold GL
  rw [h.own.1]
  exact own_touch h.own.2 ht hF
theorem GL.touchO {v : Value} (h : GL E et base w (.slice A n c) l) (ht : Touch (fun k => v.ownBlock = some k) w w') (ha : Apart (.slice A n c) v) : GL E et base w' (.slice A n c) l := h.touch ht fun k h1 h2 => ha k h1 h2
/-- a new row lies apart from what was there -/
theorem Apart.grow {v v' : Value} (h : GL E et base w (.slice A n c) l) (ha : Apart (.slice A n c) v) (hn : ∀ k, v'.ownBlock = some k → v.ownBlock = some k ∨ w.heap.size ≤ k) : Apart (.slice A n c) v' := fun k h1 h2 => by
  rcases hn k h2 with h3 | h3
  · exact ha k h1 h3
  · have := (h.lt k h1).2
    omega
theorem Apart.new {v' : Value} (h : GL E et base w (.slice A n c) l) (hn : ∀ k, v'.ownBlock = some k → w.heap.size ≤ k) : Apart (.slice A n c) v' := fun k h1 h2 => by
  have := hn k h2
  have := (h.lt k h1).2
  omega
theorem GL.place (h : GL E et base w (.slice A n c) l) (hn : 0 < n) : ∃ g, A = some ⟨g, 0, none⟩ := by
  rcases h.own.2.2 with ⟨e, h0⟩ | ⟨g, cap, cur, e, _⟩
  · cases e; omega
  · cases e; exact ⟨_, rfl⟩
end
theorem touch_own (w : World) (g n c j : Nat) (u : Value) : Touch (fun k => Value.ownBlock (.slice (some ⟨g, 0, none⟩) n c) = some k) w (w.setCell ⟨g, j, none⟩ u) :=
  Touch.setCell (F := fun k => Value.ownBlock (.slice (some ⟨g, 0, none⟩) n c) = some k) (p := ⟨g, j, none⟩) rfl u
/-- append of one element that lies at the head of a block, to a list of the call's own: what else is touched, and where the new row lies -/
theorem wpList_pushO {P : Program} {α : Type} (E : Enc α) {ops : Array Oper} {rest : List Oper} {o : Oper} {a : Act} {w : World} {Q : Exit → Act → World → Prop} (hgd : o.guard = none) (s x : Operand) (t : TypeId)
    (ho : o.op = .call { callee := .builtin .append, args := #[s, x], argTypes := #[t, t] })
    (base : Nat) (e : TypeId) (i : TypeInfo) (z : Value) (bytes : Nat) (ht : P.underlying t = some (.slice e)) (hi : P.info? e = some i) (hz : i.zero = some z)
    (hsize : i.size = E.k) (hby : i.bytes = bytes) (hzs : z.cells.size = E.k)
    (A : Option Addr) (n c : Nat) (l : List α) (y : α) (hs : a.eval s = .slice A n c) (hgl : GL E e base w (.slice A n c) l)
    (g : Nat) (hx : a.eval x = .slice (some ⟨g, 0, none⟩) 1 1) (hnew : w.rangeAt g 0 (E.cells y))
    (hlen : n + 1 ≤ 8388608) (hbytes : bytes ≤ 4096) (hbase : base ≤ w.heap.size)
    (h : ∀ A' c' w', GL E e base w' (.slice A' (n + 1) c') (l ++ [y]) → Touch (fun k => Value.ownBlock (.slice A n c) = some k) w w' → (∀ k, Value.ownBlock (.slice A' (n + 1) c') = some k → Value.ownBlock (.slice A n c) = some k ∨ w.heap.size ≤ k) → wpList P ops Q rest (a.put o.dst (.slice A' (n + 1) c')) w') : wpList P ops Q (o :: rest) a w := by
  refine wpList_plain hgd fun K hK => ?_
  have hol := hgl.own
  obtain ⟨v', w', hr, h2, h3, h4⟩ := run_push_block (P := P) (w := w) base t o.type e i z E.k bytes ht hi hz hsize hby hzs E.pos (.slice A n c) n (l.flatMap E.cells) hol.2 ⟨g, 0, none⟩ 1 (E.cells y) (by rw [E.len, Nat.one_mul])
    (fun j u hu => by have := hnew j u hu; rw [Nat.zero_add] at this; rw [addr_add, Nat.zero_add]; exact this) (E.one y) (by unfold maxLen; omega) (Nat.le_trans (Nat.mul_le_mul hlen hbytes) (by decide)) hbase
  have hv : ∃ A' c', v' = .slice A' (n + 1) c' := by
    rcases h2.2 with ⟨rfl, h0⟩ | ⟨g', cap, cur, rfl, _⟩
    · exact absurd h0 (by omega)
    · exact ⟨_, _, rfl⟩
  obtain ⟨A', c', rfl⟩ := hv
  unfold Oper.wp execOp
  simp only [ho, resolve, invoke, builtin, Sem.run_bind, Sem.run_pure, Result.andThen_ok, List.map_toArray, List.map_cons, List.map_nil, hs, hx, hr]
  refine hK _ _ (h A' c' w' ?_ ⟨h3.os, h3.tape, h3.output, h3.size, fun k hk hnF => h3.block k hk fun e' => hnF e'.symm⟩ fun k hk => ?_)
  · unfold GL
    rw [List.flatMap_append]
    simpa [hol.1] using h2
  · rcases h4 k hk with h' | rfl
    · exact .inl h'
    · exact .inr (Nat.le_refl _)
/-- one element of a list of numbers set -/
theorem GL.setI {et : TypeId} {base g n c j : Nat} {w : World} {l : List Int} (h : GL intE et base w (.slice (some ⟨g, 0, none⟩) n c) l) (hj : j < n) (x : Int) :
    GL intE et base (w.setCell ⟨g, j, none⟩ (.int .i64 x)) (.slice (some ⟨g, 0, none⟩) n c) (l.set j x) := by
  have hl := h.len
  have h1 := h.splice j [x] (by simp; omega)
  have e5 : w.setCells g (j * intE.k) ([x].flatMap intE.cells) = w.setCell ⟨g, j, none⟩ (.int .i64 x) := by
    show w.setCells g (j * 1) [.int .i64 x] = _
    rw [Nat.mul_one]
    rfl
  rw [e5] at h1
  have e : l.take j ++ [x] ++ l.drop (j + [x].length) = l.set j x := by
    rw [List.set_eq_take_append_cons_drop, if_pos (by omega)]
    simp
  rw [e] at h1
  exact h1
theorem GL.cellI {et : TypeId} {base g n c j : Nat} {w : World} {l : List Int} {v : Int} (h : GL intE et base w (.slice (some ⟨g, 0, none⟩) n c) l) (hj : l[j]? = some v) : w.cell? ⟨g, j, none⟩ = some (.int .i64 v) := by
  have h1 := h.range j
  obtain ⟨a, b⟩ := List.getElem?_eq_some_iff.1 hj
  rw [show l.drop j = v :: l.drop (j + 1) by rw [← b, List.getElem_cons_drop]] at h1
  have h2 := h1 0 (.int .i64 v) rfl
  rw [show j * intE.k = j from Nat.mul_one _] at h2
  exact h2
theorem GL.cellS {et : TypeId} {base g n c j : Nat} {w : World} {l : List ByteArray} {v : ByteArray} (h : GL strE et base w (.slice (some ⟨g, 0, none⟩) n c) l) (hj : l[j]? = some v) : w.cell? ⟨g, j, none⟩ = some (.string v) := by
  have h1 := h.range j
  obtain ⟨a, b⟩ := List.getElem?_eq_some_iff.1 hj
  rw [show l.drop j = v :: l.drop (j + 1) by rw [← b, List.getElem_cons_drop]] at h1
  have h2 := h1 0 (.string v) rfl
  rw [show j * strE.k = j from Nat.mul_one _] at h2
  exact h2
/-- what a function that returns two lists and a code leaves -/
def RetLLC {α β : Type} (E : Enc α) (et : TypeId) (l : List α) (E' : Enc β) (et' : TypeId) (l' : List β) (code : Int) (w : World) (e : Ending) (w' : World) : Prop :=
  ∃ A n c, l.length = n ∧ n ≤ 4194304 ∧ w'.ownsRow w.heap.size et E.k (.slice A n c) n (l.flatMap E.cells) ∧
  ∃ A' n' c', l'.length = n' ∧ n' ≤ 4194304 ∧ w'.ownsRow w.heap.size et' E'.k (.slice A' n' c') n' (l'.flatMap E'.cells) ∧
    Apart (.slice A n c) (.slice A' n' c') ∧ e = .returned (.tuple #[.slice A n c, .slice A' n' c', .int .i64 code]) ∧ Below w.heap.size w w'
theorem RetLLC.nil {α β : Type} {E : Enc α} {et : TypeId} {l : List α} {E' : Enc β} {et' : TypeId} {l' : List β} {code c : Int} {w w' : World} (hl : l = []) (hl' : l' = []) (hc : code = c) (hb : Below w.heap.size w w') :
    RetLLC E et l E' et' l' code w (.returned (.tuple #[.slice none 0 0, .slice none 0 0, .int .i64 c])) w' := by
  subst hl hl' hc
  exact ⟨none, 0, 0, rfl, by omega, ⟨by simp, .inl ⟨rfl, rfl⟩⟩, none, 0, 0, rfl, by omega, ⟨by simp, .inl ⟨rfl, rfl⟩⟩, Apart.nil, rfl, hb⟩
theorem RetLLC.mk {α β : Type} {E : Enc α} {et : TypeId} {l m : List α} {E' : Enc β} {et' : TypeId} {l' m' : List β} {code d : Int} {A A' : Option Addr} {n c n' c' : Nat} {w w' : World}
    (hg : GL E et w.heap.size w' (.slice A n c) m) (hg' : GL E' et' w.heap.size w' (.slice A' n' c') m') (hn : n ≤ 4194304) (hn' : n' ≤ 4194304) (ha : Apart (.slice A n c) (.slice A' n' c')) (hl : l = m) (hl' : l' = m') (hc : code = d) (hb : Below w.heap.size w w') :
    RetLLC E et l E' et' l' code w (.returned (.tuple #[.slice A n c, .slice A' n' c', .int .i64 d])) w' := by
  subst hl hl' hc
  exact ⟨A, n, c, hg.own.1, hn, hg.own.2, A', n', c', hg'.own.1, hn', hg'.own.2, ha, rfl, hb⟩
theorem OL.of_two {α β : Type} {E : Enc α} {E' : Enc β} {et et' : TypeId} {w : World} {A A' : Option Addr} {n c n' c' base : Nat} {l : List α} {l' : List β}
    (h : w.ownsRow base et E.k (.slice A n c) n (l.flatMap E.cells)) (hl : l.length = n) (h' : w.ownsRow base et' E'.k (.slice A' n' c') n' (l'.flatMap E'.cells)) (hl' : l'.length = n') (ha : Apart (.slice A n c) (.slice A' n' c')) :
    ∃ F F' : Nat → Prop, (∀ k, F k → base ≤ k ∧ k < w.heap.size) ∧ (∀ k, F' k → base ≤ k ∧ k < w.heap.size) ∧ OL E et F w A n c l ∧ OL E' et' F' w A' n' c' l' ∧ ∀ k, F k → ¬ F' k := by
  refine ⟨fun k => Value.ownBlock (.slice A n c) = some k, fun k => Value.ownBlock (.slice A' n' c') = some k, fun k hk => h.lt k hk, fun k hk => h'.lt k hk, ⟨⟨h.1, ?_⟩, hl, fun k hk => hk⟩, ⟨⟨h'.1, ?_⟩, hl', fun k hk => hk⟩, fun k h1 h2 => ha k h1 h2⟩
  · rcases h.2 with q | ⟨g, cap, cur, q, _, r⟩
    · exact .inl q
    · exact .inr ⟨g, cap, cur, q, Nat.zero_le _, r⟩
  · rcases h'.2 with q | ⟨g, cap, cur, q, _, r⟩
    · exact .inl q
    · exact .inr ⟨g, cap, cur, q, Nat.zero_le _, r⟩
end Go.Proofs.YtbdjhecbingcjaaGreatDoor
