/- A list that the call itself makes by append. -/
import Derived.Test.YtbdjhecbingcjaaGreatDoorRows
import Derived.Test.YtbdjhecbingcjaaGreatDoorMem
import Derived.Test.YtbdjhecbingcjaaGreatDoorConvS
import Derived.Deep.AppendLies
namespace Go.Proofs.YtbdjhecbingcjaaGreatDoor
set_option linter.unusedVariables false
set_option linter.unusedSimpArgs false
set_option linter.unusedSectionVars false
open Go.RowKit

/-- the slice value v holds l, in memory of the call's own from block base on -/
def GL {α : Type} (E : Enc α) (et : TypeId) (base : Nat) (w : World) (v : Value) (l : List α) : Prop := w.ownsRow base et E.k v l.length (l.flatMap E.cells)

section
variable {α : Type} {E : Enc α} {et : TypeId} {base : Nat} {w w' w0 : World} {v : Value} {l : List α}
theorem GL.nil : GL E et base w (.slice none 0 0) [] := ⟨by simp, .inl ⟨rfl, rfl⟩⟩
theorem GL.mk0 (hb : base ≤ w.heap.size) : GL E et base (w.alloc (.cells #[] et)) (.slice (some ⟨w.heap.size, 0, none⟩) 0 0) [] :=
  ⟨by simp, .inr ⟨w.heap.size, 0, #[], rfl, hb, heap_alloc_new w _, Nat.le_refl _, by decide, by simp, by simp⟩⟩
theorem GL.below (h : GL E et base w v l) (hb : Below w.heap.size w w') : GL E et base w' v l := own_below h hb
theorem GL.alloc (h : GL E et base w v l) (o : Obj) : GL E et base (w.alloc o) v l := World.ownsRow.alloc h o
theorem GL.drew (h : GL E et base w v l) : GL E et base w.drew v l := World.ownsRow.drew h
theorem GL.form (h : GL E et base w v l) : ∃ A c, v = .slice A l.length c := by
  rcases h.2 with ⟨rfl, h0⟩ | ⟨g, cap, cur, rfl, _⟩
  · exact ⟨none, 0, by rw [h0]⟩
  · exact ⟨_, cap, rfl⟩
theorem GL.low (h : GL E et base w v l) : ∀ k, v.ownBlock = some k → base ≤ k := fun k hk => by
  rcases h.2 with ⟨rfl, h0⟩ | ⟨g, cap, cur, rfl, hb, _⟩
  · cases hk
  · cases hk; exact hb
theorem GL.grown (h : GL E et base w v l) (hb : Below base w0 w) (hB : base ≤ w.heap.size) (hg : w.grownBy w' v.ownBlock) : Below base w0 w' := hb.grown hg hB h.low
theorem GL.pushed {v' : Value} {y : α} (h : w'.ownsRow base et E.k v' (l.length + 1) (l.flatMap E.cells ++ E.cells y)) : GL E et base w' v' (l ++ [y]) := by
  unfold GL
  rw [List.length_append, List.flatMap_append]
  simpa using h
theorem GL.rd {A : Option Addr} {n c : Nat} (h : GL E et base w (.slice A n c) l) : Rd E w A n l := by
  have hn : n = l.length := by obtain ⟨A', c', e⟩ := h.form; cases e; rfl
  subst hn
  exact Rd.of_own h rfl
theorem GL.own {A : Option Addr} {n c : Nat} (h : GL E et base w (.slice A n c) l) : l.length = n ∧ w.ownsRow base et E.k (.slice A n c) n (l.flatMap E.cells) := by
  have hn : n = l.length := by obtain ⟨A', c', e⟩ := h.form; cases e; rfl
  subst hn
  exact ⟨rfl, h⟩
end

theorem Tryz.info_str : (Tryz.prog.info? 9).map (fun i => (i.zero, i.size, i.bytes)) = some (some (.string ⟨#[]⟩), 1, 16) := by kernel_rfl

theorem range_new' (w : World) (cs : Array Value) (t : TypeId) {g : Nat} (h : g = w.heap.size) : (w.alloc (.cells cs t)).rangeAt g 0 cs.toList := h ▸ range_new w cs t
/-- append of one element that lies at the head of a block -/
theorem wpList_push {P : Program} {α : Type} (E : Enc α) {ops : Array Oper} {rest : List Oper} {o : Oper} {a : Act} {w : World} {Q : Exit → Act → World → Prop} (hgd : o.guard = none) (s x : Operand) (t : TypeId)
    (ho : o.op = .call { callee := .builtin .append, args := #[s, x], argTypes := #[t, t] })
    (base : Nat) (e : TypeId) (i : TypeInfo) (z : Value) (bytes : Nat) (ht : P.underlying t = some (.slice e)) (hi : P.info? e = some i) (hz : i.zero = some z)
    (hsize : i.size = E.k) (hby : i.bytes = bytes) (hzs : z.cells.size = E.k)
    (v : Value) (l : List α) (y : α) (hs : a.eval s = v) (hgl : GL E e base w v l)
    (g : Nat) (hx : a.eval x = .slice (some ⟨g, 0, none⟩) 1 1) (hnew : w.rangeAt g 0 (E.cells y))
    (hlen : l.length + 1 ≤ 8388608) (hbytes : bytes ≤ 4096) (w0 : World) (hb : Below base w0 w) (hbase : base ≤ w.heap.size)
    (h : ∀ A' c' w', GL E e base w' (.slice A' (l.length + 1) c') (l ++ [y]) → Below base w0 w' → base ≤ w'.heap.size → wpList P ops Q rest (a.put o.dst (.slice A' (l.length + 1) c')) w') : wpList P ops Q (o :: rest) a w :=
  wpList_append_own w hgd s x t ho base e i z E.k bytes ht hi hz hsize hby hzs E.pos v l.length (l.flatMap E.cells) hs hgl ⟨g, 0, none⟩ 1 1 (E.cells y) hx (by rw [E.len, Nat.one_mul])
    (fun j u hu => by have := hnew j u hu; rw [Nat.zero_add] at this; rw [addr_add, Nat.zero_add]; exact this) (E.one y) (by unfold maxLen; omega)
    (Nat.le_trans (Nat.mul_le_mul hlen hbytes) (by decide)) hbase fun v' w' h2 h3 _ => by
      obtain ⟨A', c', rfl⟩ := (GL.pushed (y := y) h2).form
      rw [show (l ++ [y]).length = l.length + 1 by simp] at h2 ⊢
      exact h A' c' w' (GL.pushed h2) (hgl.grown hb hbase h3) (Nat.le_trans hbase h3.size)

/-- what a function that returns a list and a code leaves -/
def RetLC {α : Type} (E : Enc α) (et : TypeId) (l : List α) (code : Int) (w : World) (e : Ending) (w' : World) : Prop :=
  ∃ A n c, l.length = n ∧ n ≤ 4194304 ∧ w'.ownsRow w.heap.size et E.k (.slice A n c) n (l.flatMap E.cells) ∧ e = .returned (.tuple #[.slice A n c, .int .i64 code]) ∧ Below w.heap.size w w'
/-- .. or a list alone -/
def RetL {α : Type} (E : Enc α) (et : TypeId) (l : List α) (w : World) (e : Ending) (w' : World) : Prop :=
  ∃ A n c, l.length = n ∧ n ≤ 4194304 ∧ w'.ownsRow w.heap.size et E.k (.slice A n c) n (l.flatMap E.cells) ∧ e = .returned (.slice A n c) ∧ Below w.heap.size w w'
theorem RetLC.nil {α : Type} {E : Enc α} {et : TypeId} {l : List α} {code c : Int} {w w' : World} (hl : l = []) (hc : code = c) (hb : Below w.heap.size w w') :
    RetLC E et l code w (.returned (.tuple #[.slice none 0 0, .int .i64 c])) w' := by
  subst hl hc
  exact ⟨none, 0, 0, rfl, by omega, ⟨by simp, .inl ⟨rfl, rfl⟩⟩, rfl, hb⟩
theorem RetLC.mk {α : Type} {E : Enc α} {et : TypeId} {l m : List α} {code d : Int} {A : Option Addr} {n c : Nat} {w w' : World} (hg : GL E et w.heap.size w' (.slice A n c) m) (hn : n ≤ 4194304) (hl : l = m) (hc : code = d) (hb : Below w.heap.size w w') :
    RetLC E et l code w (.returned (.tuple #[.slice A n c, .int .i64 d])) w' := by
  subst hl hc
  exact ⟨A, n, c, hg.own.1, hn, hg.own.2, rfl, hb⟩
theorem RetL.mk {α : Type} {E : Enc α} {et : TypeId} {l m : List α} {A : Option Addr} {n c : Nat} {w w' : World} (hg : GL E et w.heap.size w' (.slice A n c) m) (hn : n ≤ 4194304) (hl : l = m) (hb : Below w.heap.size w w') :
    RetL E et l w (.returned (.slice A n c)) w' := by
  subst hl
  exact ⟨A, n, c, hg.own.1, hn, hg.own.2, rfl, hb⟩
end Go.Proofs.YtbdjhecbingcjaaGreatDoor
