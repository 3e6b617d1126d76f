/- A list inside an element: opening one that came in by its cell. -/
import Derived.Test.YtfabijhilfjkcaaRows
import Derived.Test.YtfabijhilfjkcaaMem
import Derived.Test.YtfabijhilfjkcaaLaw
import Derived.Test.YtfabijhilfjkcaaConvS
import Derived.Deep.Slices
namespace Go.Proofs.Ytfabijhilfjkcaa
set_option linter.unusedVariables false
set_option linter.unusedSimpArgs false
set_option linter.unusedSectionVars false
open Go.RowKit Go.WideShapes Go.ChangeShapes Go.ChangeAt Go.Deep

section
variable {H : Type} {enc : TypeId × Value → H} {P : Program} {w : World} {base : Nat} {spare : Nat → Bool} {held : Bool}
theorem open_rdc {α : Type} (E : Enc α) (good : α → Prop) {t e : TypeId} {c0 : Value} {y : DataW H × List MemPlace} {fuel : Nat} (ht : P.underlying t = some (.slice e)) (hC : P.cellsOf e = E.k)
    (hel : ∀ (n : Nat) (cs : List Value) (y : DataW H × List MemPlace), DataW.trod enc P w base spare held n e cs = some y → ∃ x, cs = E.cells x ∧ good x)
    (hf : DataW.trod enc P w base spare held fuel t [c0] = some y) :
    ∃ A n c l, c0 = .slice A n c ∧ n ≤ maxLen ∧ Rd E w A n l ∧ ∀ x ∈ l, good x := by
  rcases open_slice ht hf with ⟨hcs, _⟩ | ⟨a, n, c, m, k, D, Pl, hcs, _, hl, hm, hmm, _, hi⟩
  · simp only [List.cons.injEq, and_true] at hcs
    exact ⟨none, 0, 0, [], hcs, Nat.zero_le _, Rd.nil, fun x hx => by cases hx⟩
  · simp only [List.cons.injEq, and_true] at hcs
    have hlm : n ≤ m := by rw [hmm]; split <;> omega
    have hx : ∀ i : Fin n, ∃ x : α, good x ∧ ∀ j u, (E.cells x)[j]? = some u → w.cell? ((a.add (i.1 * E.k)).add j) = some u := fun i => by
      obtain ⟨cs', hc, ht'⟩ := hi i.1 (by omega)
      rw [hC] at hc
      obtain ⟨_, hcl, hat⟩ := World.cells?_some hc
      obtain ⟨x, rfl, hg⟩ := hel _ _ _ ht'
      refine ⟨x, hg, fun j u hu => ?_⟩
      have hj : j < E.k := by rw [← E.len x]; exact (List.getElem?_eq_some_iff.1 hu).1
      rw [hat j hj, hu]
    let F : Fin n → α := fun i => Classical.choose (hx i)
    have hF : ∀ i, good (F i) ∧ ∀ j u, (E.cells (F i))[j]? = some u → w.cell? ((a.add (i.1 * E.k)).add j) = some u := fun i => Classical.choose_spec (hx i)
    refine ⟨some a, n, c, List.ofFn F, hcs, by omega, ⟨by simp, fun hn => ?_⟩, fun x hx' => ?_⟩
    · obtain ⟨b, off, spot⟩ := a
      have h0 : ∃ u, (E.cells (F ⟨0, hn⟩))[0]? = some u := ⟨_, List.getElem?_eq_getElem (by rw [E.len]; exact E.pos)⟩
      obtain ⟨u, hu⟩ := h0
      have hs := World.cell?_spot ((hF ⟨0, hn⟩).2 0 u hu)
      have hspot : spot = none := by simpa [Addr.add] using hs
      subst hspot
      refine ⟨b, off, rfl, fun k x hk j u hu => ?_⟩
      rw [List.getElem?_ofFn] at hk
      split at hk
      · rename_i hkl
        injection hk with hk
        subst hk
        have := (hF ⟨k, hkl⟩).2 j u hu
        rw [addr_add, addr_add] at this
        exact this
      · cases hk
    · rw [List.mem_ofFn] at hx'
      obtain ⟨i, rfl⟩ := hx'
      exact (hF i).1
end

/-- a name and a list, as they lie -/
structure Raw where
  s : ByteArray
  A : Option Addr
  n : Nat
  c : Nat
def rawE : Enc Raw := ⟨2, fun x => [.string x.s, .slice x.A x.n x.c], fun _ => rfl, by decide, fun _ u h => by simp at h; rcases h with rfl | rfl <;> rfl⟩
def Raw.zero : Raw := ⟨⟨#[]⟩, none, 0, 0⟩

theorem replicate_set {α : Type} {r : List α} {n : Nat} {z x : α} (h : r.length < n) : (r ++ List.replicate (n - r.length) z).set r.length x = (r ++ [x]) ++ List.replicate (n - (r ++ [x]).length) z := by
  rw [List.set_append_right _ _ (Nat.le_refl _), Nat.sub_self]
  obtain ⟨m, hm⟩ : ∃ m, n - r.length = m + 1 := ⟨n - r.length - 1, by omega⟩
  rw [hm, List.replicate_succ, List.set_cons_zero, List.length_append, List.length_singleton, show n - (r.length + 1) = m by omega]
  simp
theorem get_snoc {α : Type} {r : List α} {x y : α} {i : Nat} (h : (r ++ [x])[i]? = some y) : r[i]? = some y ∨ i = r.length ∧ y = x := by
  rcases Nat.lt_trichotomy i r.length with h1 | h1 | h1
  · rw [List.getElem?_append_left h1] at h
    exact .inl h
  · subst h1
    simp at h
    exact .inr ⟨rfl, h.symm⟩
  · rw [List.getElem?_eq_none (by simp; omega)] at h
    cases h
end Go.Proofs.Ytfabijhilfjkcaa
