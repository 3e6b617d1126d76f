/- A list of the call's own that grows while other memory of the call's own is read. -/
import Derived.Test.YtbdjhecbingcjaaGreatDoorRows
import Derived.Test.YtbdjhecbingcjaaGreatDoorArr
namespace Go.Proofs.YtbdjhecbingcjaaGreatDoor
set_option linter.unusedVariables false
set_option linter.unusedSimpArgs false
set_option linter.unusedSectionVars false
open Go.RowKit

theorem range_touch {F : Nat → Prop} {w w' : World} {b o : Nat} {cs : List Value} (h : w.rangeAt b o cs) (ht : Touch F w w') (hF : ¬ F b) : w'.rangeAt b o cs := fun j v hv => touch_cell (p := ⟨b, o + j, none⟩) ht hF (h j v hv)
theorem Touch.drew (F : Nat → Prop) (w : World) : Touch F w w.drew := ⟨rfl, rfl, rfl, Nat.le_refl _, fun _ _ _ => rfl⟩
theorem Touch.alloc {F : Nat → Prop} (w : World) (o : Obj) : Touch F w (w.alloc o) := Touch.of_below ((Below.refl _ _).alloc (Nat.le_refl _) o)

/-- append of one element: where the new row lies -/
theorem run_push_block {P : Program} {w : World} (base : Nat) (t ty e : TypeId) (i : TypeInfo) (z : Value) (size bytes : Nat) (ht : P.underlying t = some (.slice e)) (hi : P.info? e = some i) (hz : i.zero = some z)
    (hsize : i.size = size) (hby : i.bytes = bytes) (hzs : z.cells.size = size) (hsz : 0 < size)
    (v : Value) (n : Nat) (xs : List Value) (hown : w.ownsRow base e size v n xs)
    (a : Addr) (c : Nat) (news : List Value) (hl : news.length = 1 * size) (hnews : ∀ j u, news[j]? = some u → w.cell? (a.add j) = some u) (h1 : ∀ u ∈ news, u.oneCell' = true)
    (h63 : n + 1 ≤ maxLen) (hbytes : (n + 1) * bytes ≤ 140737488355328) (hbase : base ≤ w.heap.size) :
    ∃ v' w', (Builtin.append_ #[t, t] ty #[v, .slice (some a) 1 c]).run P w = .ok v' w' ∧ w'.ownsRow base e size v' (n + 1) (xs ++ news) ∧ w.grownBy w' v.ownBlock ∧
      ∀ k, v'.ownBlock = some k → v.ownBlock = some k ∨ k = w.heap.size := by
  obtain ⟨v', w', hr, h2, h3, h4⟩ := run_append_own (P := P) w base t ty e i z size bytes ht hi hz hsize hby hzs hsz v n xs hown a 1 c news hl hnews h1 h63 hbytes hbase
  refine ⟨v', w', hr, h2, h3, fun k hk => ?_⟩
  subst hsize
  subst hby
  rcases hown.2 with ⟨rfl, rfl⟩ | ⟨g, cap, cur, rfl, hbg, hg, hnc, hcm, hcs, htake⟩
  · have hr2 := run_append_nil (P := P) w t ty e i z ht hi hz a 1 c news hl hnews (by omega) (by omega) (by simp at hbytes; omega)
    rw [hr2] at hr
    cases hr
    cases hk
    exact .inr rfl
  · by_cases hroom : n + 1 ≤ cap
    · have hfit : n * i.size + news.length ≤ cur.size := by rw [hl, hcs, ← Nat.add_mul]; exact Nat.mul_le_mul_right _ hroom
      have hr2 := run_append_room (P := P) w t ty e i ht hi g n cap cur hg a 1 c news hl hnews h1 hroom hfit
      rw [hr2] at hr
      cases hr
      exact .inl hk
    · have holds : ∀ j u, xs[j]? = some u → w.cell? ((⟨g, 0, none⟩ : Addr).add j) = some u := hown.cells (g := g) rfl
      have hr2 := run_append_grow (P := P) w t ty e i z ht hi hz ⟨g, 0, none⟩ n cap xs hown.1 holds a 1 c news hl hnews (by omega) (by unfold maxLen at h63; omega) (growslice_fits (by omega) hbytes)
      rw [hr2] at hr
      cases hr
      cases hk
      exact .inr rfl
/-- append of one element that lies at the head of a block, to a list whose block lies in F -/
theorem wpList_pushT {P : Program} {α : Type} (E : Enc α) {ops : Array Oper} {rest : List Oper} {o : Oper} {a : Act} {w : World} {Q : Exit → Act → World → Prop} (hgd : o.guard = none) (s x : Operand) (t : TypeId)
    (ho : o.op = .call { callee := .builtin .append, args := #[s, x], argTypes := #[t, t] })
    (e : TypeId) (i : TypeInfo) (z : Value) (bytes : Nat) (ht : P.underlying t = some (.slice e)) (hi : P.info? e = some i) (hz : i.zero = some z)
    (hsize : i.size = E.k) (hby : i.bytes = bytes) (hzs : z.cells.size = E.k)
    (F : Nat → Prop) (A : Option Addr) (n c : Nat) (l : List α) (y : α) (hs : a.eval s = .slice A n c) (hol : OL E e F w A n c l)
    (g : Nat) (hx : a.eval x = .slice (some ⟨g, 0, none⟩) 1 1) (hnew : w.rangeAt g 0 (E.cells y)) (hF : F w.heap.size)
    (hlen : n + 1 ≤ 8388608) (hbytes : bytes ≤ 4096)
    (h : ∀ A' c' w', OL E e F w' A' (n + 1) c' (l ++ [y]) → Touch F w w' → wpList P ops Q rest (a.put o.dst (.slice A' (n + 1) c')) w') : wpList P ops Q (o :: rest) a w := by
  refine wpList_plain hgd fun K hK => ?_
  obtain ⟨v', w', hr, h2, h3, h4⟩ := run_push_block (P := P) (w := w) 0 t o.type e i z E.k bytes ht hi hz hsize hby hzs E.pos (.slice A n c) n (l.flatMap E.cells) hol.1 ⟨g, 0, none⟩ 1 (E.cells y) (by rw [E.len, Nat.one_mul])
    (fun j u hu => by have := hnew j u hu; rw [Nat.zero_add] at this; rw [addr_add, Nat.zero_add]; exact this) (E.one y) (by unfold maxLen; omega) (Nat.le_trans (Nat.mul_le_mul hlen hbytes) (by decide)) (Nat.zero_le _)
  have hv : ∃ A' c', v' = .slice A' (n + 1) c' := by
    rcases h2.2 with ⟨rfl, h0⟩ | ⟨g', cap, cur, rfl, _⟩
    · exact absurd h0 (by omega)
    · exact ⟨_, _, rfl⟩
  obtain ⟨A', c', rfl⟩ := hv
  unfold Oper.wp execOp
  simp only [ho, resolve, invoke, builtin, Sem.run_bind, Sem.run_pure, Result.andThen_ok, List.map_toArray, List.map_cons, List.map_nil, hs, hx, hr]
  refine hK _ _ (h A' c' w' ⟨?_, by simp [hol.2.1], fun k hk => ?_⟩ ⟨h3.os, h3.tape, h3.output, h3.size, fun k hk hnF => h3.block k hk fun e' => hnF (hol.2.2 k e'.symm)⟩)
  · rw [List.flatMap_append]
    simpa using h2
  · rcases h4 k hk with h' | rfl
    · exact hol.2.2 k h'
    · exact hF
theorem OL.toGL {α : Type} {E : Enc α} {et : TypeId} {F : Nat → Prop} {w : World} {A : Option Addr} {n c base : Nat} {l : List α} (h : OL E et F w A n c l) (hF : ∀ k, F k → base ≤ k) : GL E et base w (.slice A n c) l := by
  unfold GL
  rw [h.2.1]
  refine ⟨h.1.1, ?_⟩
  rcases h.1.2 with h' | ⟨g, cap, cur, e, _, r⟩
  · exact .inl h'
  · exact .inr ⟨g, cap, cur, e, hF g (h.2.2 g (by rw [e]; rfl)), r⟩
theorem OL.drew {α : Type} {E : Enc α} {et : TypeId} {F : Nat → Prop} {w : World} {A : Option Addr} {n c : Nat} {l : List α} (h : OL E et F w A n c l) : OL E et F w.drew A n c l := h.below ((Below.refl _ _).drew)
theorem OL.alloc {α : Type} {E : Enc α} {et : TypeId} {F : Nat → Prop} {w : World} {A : Option Addr} {n c : Nat} {l : List α} (h : OL E et F w A n c l) (o : Obj) : OL E et F (w.alloc o) A n c l := h.below ((Below.refl _ _).alloc (Nat.le_refl _) o)
end Go.Proofs.YtbdjhecbingcjaaGreatDoor
