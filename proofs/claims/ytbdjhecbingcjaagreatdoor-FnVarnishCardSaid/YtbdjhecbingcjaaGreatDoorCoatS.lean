/- Coats in a list: how they lie, each with its colour in a row of its own. Nothing here speaks of the program. -/
import Derived.Test.YtbdjhecbingcjaaGreatDoorRows
import Derived.Test.YtbdjhecbingcjaaGreatDoorVarnLaw
import Derived.Test.YtbdjhecbingcjaaGreatDoorTwo
import Derived.Test.YtbdjhecbingcjaaGreatDoorSrcMore
namespace Go.Proofs.YtbdjhecbingcjaaGreatDoor
set_option linter.unusedVariables false
set_option linter.unusedSimpArgs false
set_option linter.unusedSectionVars false
open Go.RowKit

structure RawC where
  s : ByteArray
  d : Int
  v : Int
  A : Option Addr
  n : Nat
  c : Nat
def rawCE : Enc RawC := ⟨4, fun x => [.string x.s, .int .i64 x.d, .int .i64 x.v, .slice x.A x.n x.c], fun _ => rfl, by decide, fun _ u h => by simp at h; rcases h with rfl | rfl | rfl | rfl <;> rfl⟩
structure RawC.of (x : RawC) (y : DCoat) : Prop where
  s : x.s = y.fId
  d : x.d = y.fDays
  v : x.v = y.fCover
/-- The slice '.slice A n _' reads as the list l of coats. -/
def RdCoat (w : World) (A : Option Addr) (n : Nat) (l : List DCoat) : Prop :=
  ∃ r : List RawC, Rd rawCE w A n r ∧ l.length = n ∧ ∀ (k : Nat) x d, r[k]? = some x → l[k]? = some d → x.of d ∧ Rd intE w x.A x.n d.fColour
section
variable {w w' : World} {A : Option Addr} {n c : Nat} {l : List DCoat}
theorem RdCoat.len (h : RdCoat w A n l) : l.length = n := h.elim fun _ h => h.2.1
theorem RdCoat.below (h : RdCoat w A n l) (hb : Below w.heap.size w w') : RdCoat w' A n l := by
  obtain ⟨r, h1, h2, h3⟩ := h
  exact ⟨r, h1.below hb, h2, fun k x d hx hd => ⟨(h3 k x d hx hd).1, (h3 k x d hx hd).2.below hb⟩⟩
theorem RdCoat.get (h : RdCoat w A n l) {k : Nat} (hk : k < n) : ∃ b off d A' n' c', A = some ⟨b, off, none⟩ ∧ l[k]? = some d ∧ w.rangeAt b (off + k * 4) [.string d.fId, .int .i64 d.fDays, .int .i64 d.fCover, .slice A' n' c'] ∧ Rd intE w A' n' d.fColour := by
  obtain ⟨r, h1, h2, h3⟩ := h
  obtain ⟨b, off, x, rfl, hx, hc⟩ := h1.get hk
  obtain ⟨d, hd⟩ : ∃ d, l[k]? = some d := ⟨_, List.getElem?_eq_getElem (by omega)⟩
  obtain ⟨⟨e1, e2, e3⟩, hr⟩ := h3 k x d hx hd
  refine ⟨b, off, d, x.A, x.n, x.c, rfl, hd, ?_, hr⟩
  rw [← e1, ← e2, ← e3]
  exact hc
end
/-- a list of coats being made: the colours lie in other blocks -/
structure CW (et : TypeId) (base : Nat) (w : World) (A : Option Addr) (n c : Nat) (r : List RawC) (l : List DCoat) : Prop where
  own : GL rawCE et base w (.slice A n c) r
  len : l.length = r.length
  row : ∀ (i : Nat) x d, r[i]? = some x → l[i]? = some d → x.of d ∧ Rd intE w x.A x.n d.fColour ∧ ∃ q, x.A = some ⟨q, 0, none⟩ ∧ base ≤ q ∧ q < w.heap.size ∧ Value.ownBlock (.slice A n c) ≠ some q
section
variable {et : TypeId} {base : Nat} {w w' : World} {A : Option Addr} {n c : Nat} {r : List RawC} {l : List DCoat}
theorem CW.nil (h : GL rawCE et base w (.slice A n c) []) : CW et base w A n c [] [] := ⟨h, rfl, fun i x d hx => by simp at hx⟩
theorem CW.touch {F : Nat → Prop} (h : CW et base w A n c r l) (ht : Touch F w w') (hF : ∀ k, F k → k < base ∨ w.heap.size ≤ k) : CW et base w' A n c r l :=
  ⟨h.own.touch ht fun k hk hk' => by have := h.own.lt k hk; have := hF k hk'; omega, h.len, fun i x d hx hd => by
    obtain ⟨h1, h2, q, h3, h4, h5, h6⟩ := h.row i x d hx hd
    refine ⟨h1, h2.touch ht fun _ b o p e hk => ?_, q, h3, h4, by have := ht.size; omega, h6⟩
    rw [h3] at e
    cases e
    have := hF q hk
    omega⟩
theorem CW.push {w1 : World} {A' : Option Addr} {n' c' : Nat} {x : RawC} {d : DCoat} {q : Nat} (h : CW et base w A n c r l) (hxd : x.of d) (hx : Rd intE w x.A x.n d.fColour) (hq : x.A = some ⟨q, 0, none⟩) (hq0 : base ≤ q) (hq1 : q < w.heap.size) (hqn : Value.ownBlock (.slice A n c) ≠ some q)
    (hg : GL rawCE et base w1 (.slice A' n' c') (r ++ [x])) (ht : Touch (fun k => Value.ownBlock (.slice A n c) = some k) w w1)
    (hn : ∀ k, Value.ownBlock (.slice A' n' c') = some k → Value.ownBlock (.slice A n c) = some k ∨ w.heap.size ≤ k) : CW et base w1 A' n' c' (r ++ [x]) (l ++ [d]) := by
  have keep : ∀ (y : RawC) (e : DCoat) (p : Nat), y.of e → Rd intE w y.A y.n e.fColour → y.A = some ⟨p, 0, none⟩ → base ≤ p → p < w.heap.size → Value.ownBlock (.slice A n c) ≠ some p → y.of e ∧ Rd intE w1 y.A y.n e.fColour ∧ ∃ p, y.A = some ⟨p, 0, none⟩ ∧ base ≤ p ∧ p < w1.heap.size ∧ Value.ownBlock (.slice A' n' c') ≠ some p := fun y e p h1 h2 h3 h4 h5 h6 => by
    refine ⟨h1, h2.touch ht fun _ b o s es hk => ?_, p, h3, h4, by have := ht.size; omega, fun e2 => ?_⟩
    · rw [h3] at es
      cases es
      exact h6 hk
    · rcases hn p e2 with h7 | h7
      · exact h6 h7
      · omega
  refine ⟨hg, by rw [List.length_append, List.length_append, h.len]; rfl, fun i y e hy he => ?_⟩
  rcases Nat.lt_trichotomy i r.length with h1 | h1 | h1
  · rw [List.getElem?_append_left h1] at hy
    rw [List.getElem?_append_left (by rw [h.len]; exact h1)] at he
    obtain ⟨a1, a2, p, a3, a4, a5, a6⟩ := h.row i y e hy he
    exact keep y e p a1 a2 a3 a4 a5 a6
  · subst h1
    simp at hy
    rw [← h.len] at he
    simp at he
    subst hy he
    exact keep x d q hxd hx hq hq0 hq1 hqn
  · rw [List.getElem?_eq_none (by simp; omega)] at hy
    cases hy
theorem CW.rd (h : CW et base w A n c r l) : RdCoat w A n l := ⟨r, h.own.rd, by rw [h.len]; exact h.own.len, fun k x d hx hd => ⟨(h.row k x d hx hd).1, (h.row k x d hx hd).2.1⟩⟩
end
end Go.Proofs.YtbdjhecbingcjaaGreatDoor
