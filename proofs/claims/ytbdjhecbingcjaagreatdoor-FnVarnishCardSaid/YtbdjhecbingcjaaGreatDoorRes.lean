/- A struct result lies in a block that the call lays first: what is known of it behind other calls. -/
import Derived.Test.YtbdjhecbingcjaaGreatDoorRows
import Derived.Test.YtbdjhecbingcjaaGreatDoorMem
import Derived.Test.YtbdjhecbingcjaaGreatDoorResG
import Derived.Test.YtbdjhecbingcjaaGreatDoorGrow
import Derived.Test.YtbdjhecbingcjaaGreatDoorSList
namespace Go.Proofs.YtbdjhecbingcjaaGreatDoor
set_option linter.unusedVariables false
set_option linter.unusedSimpArgs false
set_option linter.unusedSectionVars false
open Go.RowKit

theorem GL.ints {base : Nat} {et : TypeId} {w : World} {A : Option Addr} {k c : Nat} {ns : List Int} (h : GL intE et base w (.slice A k c) ns) (hk : 0 < k) :
    ∃ g, A = some ⟨g, 0, none⟩ ∧ base ≤ g ∧ g < w.heap.size ∧ ∀ (j : Nat) (n : Int), ns[j]? = some n → w.cell? ⟨g, j, none⟩ = some (.int .i64 n) := by
  have ho := h.own.2
  obtain ⟨g, cap, hv, _, _⟩ := ho.form hk
  injection hv with hA
  subst hA
  obtain ⟨h1, h2⟩ := ho.lt g rfl
  refine ⟨g, rfl, h1, h2, fun j n hj => ?_⟩
  have h3 := ho.cells (g := g) rfl (j * 1) _ (flat_get intE ns j n hj 0 (.int .i64 n) rfl)
  rw [addr_add] at h3
  simpa using h3
theorem named_size {s : ByteArray} {k N : Nat} {a : List UInt8} {ns : List Int} (hs : s.size ≤ N) (h : namedL k s.data.toList = some (a, ns)) : a.length ≤ N := by
  unfold namedL at h
  split at h
  · rename_i x b hc
    split at h
    · split at h
      · simp only [Option.some.injEq, Prod.mk.injEq] at h
        have h1 := cuts_sub (c := 32) (l := s.data.toList) (p := x) (by rw [hc]; exact List.mem_cons_self ..)
        have h2 : s.data.toList.length = s.size := by simp
        rw [← h.1]
        omega
      · cases h
    · cases h
  · cases h
end Go.Proofs.YtbdjhecbingcjaaGreatDoor
