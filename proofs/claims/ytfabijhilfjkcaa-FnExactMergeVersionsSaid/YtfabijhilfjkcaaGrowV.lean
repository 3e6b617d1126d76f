/- A list of versions of the call's own that grows: each with settings in a row of its own. -/
import Derived.Test.YtfabijhilfjkcaaRows
import Derived.Test.YtfabijhilfjkcaaCVersion
import Derived.Test.YtfabijhilfjkcaaTwo
namespace Go.Proofs.Ytfabijhilfjkcaa
set_option linter.unusedVariables false
set_option linter.unusedSimpArgs false
set_option linter.unusedSectionVars false
open Go.RowKit

/-- a list of versions being made -/
structure GV (base : Nat) (w : World) (A : Option Addr) (n c : Nat) (r : List RawV) (l : List DVersion) : Prop where
  own : GL rawVE 45 base w (.slice A n c) r
  len : l.length = r.length
  row : ∀ (i : Nat) x d, r[i]? = some x → l[i]? = some d → x.of d ∧ GL settingE 56 base w (.slice x.A x.n x.c) d.fState
  out : ∀ (i : Nat) x, r[i]? = some x → Apart (.slice A n c) (.slice x.A x.n x.c)
  apart : ∀ (i j : Nat) x y, i ≠ j → r[i]? = some x → r[j]? = some y → Apart (.slice x.A x.n x.c) (.slice y.A y.n y.c)
section
variable {base : Nat} {w w' : World} {A : Option Addr} {n c : Nat} {r : List RawV} {l : List DVersion}
theorem GV.below (h : GV base w A n c r l) (hb : Below w.heap.size w w') : GV base w' A n c r l :=
  ⟨h.own.below hb, h.len, fun i x d hx hd => ⟨(h.row i x d hx hd).1, (h.row i x d hx hd).2.below hb⟩, h.out, h.apart⟩
theorem GV.get (h : GV base w A n c r l) {i : Nat} {x : RawV} (hx : r[i]? = some x) : ∃ d, l[i]? = some d := ⟨_, List.getElem?_eq_getElem (by rw [h.len]; exact (List.getElem?_eq_some_iff.1 hx).1)⟩
theorem GV.low (h : GV base w A n c r l) : (∀ k, Value.ownBlock (.slice A n c) = some k → base ≤ k ∧ k < w.heap.size) ∧ ∀ (i : Nat) x, r[i]? = some x → ∀ k, Value.ownBlock (.slice x.A x.n x.c) = some k → base ≤ k ∧ k < w.heap.size :=
  ⟨fun k hk => h.own.lt k hk, fun i x hx k hk => by
    obtain ⟨d, hd⟩ := h.get hx
    exact (h.row i x d hx hd).2.lt k hk⟩
/-- a cell of another block is turned -/
theorem GV.touch {F : Nat → Prop} (h : GV base w A n c r l) (ht : Touch F w w') (hF : ∀ k, k < w.heap.size → base ≤ k → ¬ F k) : GV base w' A n c r l :=
  ⟨h.own.touch ht fun k hk => hF k (h.own.lt k hk).2 (h.own.lt k hk).1, h.len, fun i x d hx hd => ⟨(h.row i x d hx hd).1, (h.row i x d hx hd).2.touch ht fun k hk => hF k ((h.row i x d hx hd).2.lt k hk).2 ((h.row i x d hx hd).2.lt k hk).1⟩, h.out, h.apart⟩
theorem GV.touchB {F : Nat → Prop} {w1 w2 : World} (h : GV base w A n c r l) (hb : Below w.heap.size w w1) (ht : Touch F w1 w2) (hF : ∀ k, F k → w.heap.size ≤ k) : GV base w2 A n c r l :=
  ⟨(h.own.below hb).touch ht fun k hk hk' => by have := hF k hk'; have := (h.own.lt k hk).2; omega, h.len, fun i x d hx hd => ⟨(h.row i x d hx hd).1, ((h.row i x d hx hd).2.below hb).touch ht fun k hk hk' => by have := hF k hk'; have := ((h.row i x d hx hd).2.lt k hk).2; omega⟩, h.out, h.apart⟩
theorem GV.nil (h : GL rawVE 45 base w (.slice A n c) []) : GV base w A n c [] [] :=
  ⟨h, rfl, fun i x d hx => by simp at hx, fun i x hx => by simp at hx, fun i j x y _ hx => by simp at hx⟩
theorem GV.mono {base' : Nat} (h : GV base w A n c r l) (hb : base' ≤ base) : GV base' w A n c r l :=
  ⟨h.own.mono hb, h.len, fun i x d hx hd => ⟨(h.row i x d hx hd).1, (h.row i x d hx hd).2.mono hb⟩, h.out, h.apart⟩
/-- one more version, whose settings lie apart from all of the list's -/
theorem GV.push2 {w1 : World} {A' : Option Addr} {n' c' : Nat} {x : RawV} {d : DVersion} (h : GV base w A n c r l) (hxd : x.of d) (hx : GL settingE 56 base w (.slice x.A x.n x.c) d.fState)
    (hxA : Apart (.slice A n c) (.slice x.A x.n x.c)) (hold : ∀ (i : Nat) y, r[i]? = some y → Apart (.slice y.A y.n y.c) (.slice x.A x.n x.c))
    (hg : GL rawVE 45 base w1 (.slice A' n' c') (r ++ [x])) (ht : Touch (fun k => Value.ownBlock (.slice A n c) = some k) w w1)
    (hn : ∀ k, Value.ownBlock (.slice A' n' c') = some k → Value.ownBlock (.slice A n c) = some k ∨ w.heap.size ≤ k) : GV base w1 A' n' c' (r ++ [x]) (l ++ [d]) := by
  refine ⟨hg, by rw [List.length_append, List.length_append, h.len]; rfl, fun i y e hy he => ?_, fun i y hy => ?_, fun i j y z hij hy hz => ?_⟩
  · rcases get_snoc hy with h1 | ⟨h1, rfl⟩
    · have hi := (List.getElem?_eq_some_iff.1 h1).1
      rw [List.getElem?_append_left (by rw [h.len]; exact hi)] at he
      exact ⟨(h.row i y e h1 he).1, (h.row i y e h1 he).2.touchO ht (h.out i y h1).symm⟩
    · rw [h1, ← h.len] at he
      simp at he
      subst he
      exact ⟨hxd, hx.touchO ht hxA.symm⟩
  · rcases get_snoc hy with h1 | ⟨h1, rfl⟩
    · obtain ⟨e, he⟩ := h.get h1
      exact (Apart.grow (h.row i y e h1 he).2 (h.out i y h1).symm hn).symm
    · exact (Apart.grow hx hxA.symm hn).symm
  · rcases get_snoc hy with h1 | ⟨h1, rfl⟩
    · rcases get_snoc hz with h2 | ⟨h2, rfl⟩
      · exact h.apart i j y z hij h1 h2
      · exact hold i y h1
    · rcases get_snoc hz with h2 | ⟨h2, rfl⟩
      · exact (hold j z h2).symm
      · omega
/-- one more version: its settings lie in a block that is newer than all of the list's -/
theorem GV.push {w0 w1 : World} {A' : Option Addr} {n' c' : Nat} {x : RawV} {d : DVersion} (h0 : GV base w0 A n c r l) (h : GV base w A n c r l) (hxd : x.of d) (hx : GL settingE 56 base w (.slice x.A x.n x.c) d.fState)
    (hnew : ∀ k, Value.ownBlock (.slice x.A x.n x.c) = some k → w0.heap.size ≤ k)
    (hg : GL rawVE 45 base w1 (.slice A' n' c') (r ++ [x])) (ht : Touch (fun k => Value.ownBlock (.slice A n c) = some k) w w1)
    (hn : ∀ k, Value.ownBlock (.slice A' n' c') = some k → Value.ownBlock (.slice A n c) = some k ∨ w.heap.size ≤ k) : GV base w1 A' n' c' (r ++ [x]) (l ++ [d]) :=
  h.push2 hxd hx (fun k h1 h2 => by have := hnew k h2; have := (h0.own.lt k h1).2; omega) (fun i y hy k h1 h2 => by
    have := hnew k h2
    have := (h0.low.2 i y hy k h1).2
    omega) hg ht hn
theorem GV.over (h : GV base w A n c r l) : ∃ F : Nat → Prop, (∀ k, F k → base ≤ k ∧ k < w.heap.size) ∧ OVer F w A n c l ∧ l.length = n := by
  have hn : l.length = n := by rw [h.len]; exact h.own.len
  refine ⟨fun k => base ≤ k ∧ k < w.heap.size, fun k hk => hk, ⟨r, fun k => Value.ownBlock (.slice A n c) = some k, fun i k => ∃ x, r[i]? = some x ∧ Value.ownBlock (.slice x.A x.n x.c) = some k, ⟨(h.own.mono (Nat.zero_le _)).own.2, h.own.len, fun k hk => hk⟩, hn, fun k hk => h.own.lt k hk, fun i k ⟨x, hx, hk⟩ => ?_, fun i j k hij ⟨x, hx, hk⟩ ⟨y, hy, hk'⟩ => h.apart i j x y hij hx hy k hk hk', fun i x d hx hd => ?_⟩, hn⟩
  · obtain ⟨d, hd⟩ := h.get hx
    exact ⟨(h.row i x d hx hd).2.lt k hk, fun h0 => h.out i x hx k h0 hk⟩
  · have h1 := h.row i x d hx hd
    exact ⟨h1.1, (h1.2.mono (Nat.zero_le _)).own.2, h1.2.own.1, fun k hk => ⟨x, hx, hk⟩⟩
end
/-- what a function that returns versions and a code leaves -/
def RetVer (L : List DVersion) (code : Int) (w : World) (e : Ending) (w' : World) : Prop :=
  ∃ B m q F, e = .returned (.tuple #[.slice B m q, .int .i64 code]) ∧ (∀ k, F k → w.heap.size ≤ k ∧ k < w'.heap.size) ∧ OVer F w' B m q L ∧ L.length = m ∧ Below w.heap.size w w'
theorem RetVer.nil {L : List DVersion} {code d : Int} {w w' : World} (hl : L = []) (hc : code = d) (hb : Below w.heap.size w w') : RetVer L code w (.returned (.tuple #[.slice none 0 0, .int .i64 d])) w' := by
  subst hl hc
  exact ⟨none, 0, 0, fun _ => False, rfl, fun k h => h.elim, OVer.nil _ _, rfl, hb⟩
theorem RetVer.mk {L M : List DVersion} {code d : Int} {w w' : World} {A : Option Addr} {n c : Nat} {r : List RawV} (h : GV w.heap.size w' A n c r M) (hl : L = M) (hc : code = d) (hb : Below w.heap.size w w') : RetVer L code w (.returned (.tuple #[.slice A n c, .int .i64 d])) w' := by
  subst hl hc
  obtain ⟨F, hF, hO, hn⟩ := h.over
  exact ⟨A, n, c, F, rfl, hF, hO, hn, hb⟩
end Go.Proofs.Ytfabijhilfjkcaa
