/- A push as one step of a region that draws its order. Nothing here speaks of the program. -/
import Derived.Test.YtbdjhecbingcjaaGreatDoorTwo
import Derived.Deep.RegionHeld3
namespace Go.Proofs.YtbdjhecbingcjaaGreatDoor
set_option linter.unusedVariables false
set_option linter.unusedSimpArgs false
set_option linter.unusedSectionVars false
open Go.RowKit Go.Maps

theorem step_pushO {P : Program} {α : Type} (E : Enc α) {ops : Array Oper} {o : Oper} {a : Act} {w : World} {K : Act → World → Prop} {Q : Exit → Act → World → Prop} {G : Prop} (hgd : o.guard = none) (s x : Operand) (t : TypeId)
    (ho : o.op = .call { callee := .builtin .append, args := #[s, x], argTypes := #[t, t] })
    (base : Nat) (e : TypeId) (i : TypeInfo) (z : Value) (bytes : Nat) (ht : P.underlying t = some (.slice e)) (hi : P.info? e = some i) (hz : i.zero = some z)
    (hsize : i.size = E.k) (hby : i.bytes = bytes) (hzs : z.cells.size = E.k)
    (A : Option Addr) (n c : Nat) (l : List α) (y : α) (hs : a.eval s = .slice A n c) (hgl : GL E e base w (.slice A n c) l)
    (g : Nat) (hx : a.eval x = .slice (some ⟨g, 0, none⟩) 1 1) (hnew : w.rangeAt g 0 (E.cells y))
    (hlen : n + 1 ≤ 8388608) (hbytes : bytes ≤ 4096) (hbase : base ≤ w.heap.size)
    (h : ∀ A' c' w', GL E e base w' (.slice A' (n + 1) c') (l ++ [y]) → Touch (fun k => Value.ownBlock (.slice A n c) = some k) w w' → (∀ k, Value.ownBlock (.slice A' (n + 1) c') = some k → Value.ownBlock (.slice A n c) = some k ∨ w.heap.size ≤ k) → K (a.put o.dst (.slice A' (n + 1) c')) w') : if Region.wanted o (yielded ops a.tmps) = true then Oper.wp P o a w K Q else G := by
  have hw : Region.wanted o (yielded ops a.tmps) = true := by simp [Region.wanted, hgd]
  rw [if_pos hw]
  have hol := hgl.own
  obtain ⟨v', w', hr, h2, h3, h4⟩ := run_push_block (P := P) (w := w) base t o.type e i z E.k bytes ht hi hz hsize hby hzs E.pos (.slice A n c) n (l.flatMap E.cells) hol.2 ⟨g, 0, none⟩ 1 (E.cells y) (by rw [E.len, Nat.one_mul])
    (fun j u hu => by have := hnew j u hu; rw [Nat.zero_add] at this; rw [addr_add, Nat.zero_add]; exact this) (E.one y) (by unfold maxLen; omega) (Nat.le_trans (Nat.mul_le_mul hlen hbytes) (by decide)) hbase
  have hv : ∃ A' c', v' = .slice A' (n + 1) c' := by
    rcases h2.2 with ⟨rfl, h0⟩ | ⟨g', cap, cur, rfl, _⟩
    · exact absurd h0 (by omega)
    · exact ⟨_, _, rfl⟩
  obtain ⟨A', c', rfl⟩ := hv
  unfold Oper.wp execOp
  simp only [ho, resolve, invoke, builtin, Sem.run_bind, Sem.run_pure, Result.andThen_ok, List.map_toArray, List.map_cons, List.map_nil, hs, hx, hr]
  refine (h A' c' w' ?_ ⟨h3.os, h3.tape, h3.output, h3.size, fun k hk hnF => h3.block k hk fun e' => hnF e'.symm⟩ fun k hk => ?_)
  · unfold GL
    rw [List.flatMap_append]
    simpa [hol.1] using h2
  · rcases h4 k hk with h' | rfl
    · exact .inl h'
    · exact .inr (Nat.le_refl _)
end Go.Proofs.YtbdjhecbingcjaaGreatDoor
