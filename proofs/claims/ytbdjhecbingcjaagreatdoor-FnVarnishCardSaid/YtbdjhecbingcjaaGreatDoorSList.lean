/- The reference's reading of a list of numbers, and of a name before one. -/
import Derived.Test.YtbdjhecbingcjaaGreatDoorRows
import Derived.Test.YtbdjhecbingcjaaGreatDoorSNum
namespace Go.Proofs.YtbdjhecbingcjaaGreatDoor
set_option linter.unusedVariables false
set_option linter.unusedSimpArgs false
set_option linter.unusedSectionVars false
open Go.RowKit

theorem Tryz.info_int : (Tryz.prog.info? 2).map (fun i => (i.zero, i.size, i.bytes)) = some (some (.int .i64 0), 1, 8) := by kernel_rfl

theorem info_hid {P : Program} {t : TypeId} {z : Option Value} {s b : Nat} (h : (P.info? t).map (fun i => (i.zero, i.size, i.bytes)) = some (z, s, b)) : ∃ i, Hid (P.info? t = some i ∧ i.zero = z ∧ i.size = s ∧ i.bytes = b) := by
  cases hi : P.info? t with
  | none => rw [hi] at h; cases h
  | some i =>
    rw [hi] at h
    simp only [Option.map_some, Option.some.injEq, Prod.mk.injEq] at h
    exact ⟨i, Lib.hid ⟨rfl, h.1, h.2.1, h.2.2⟩⟩
/-- what a reader of a list leaves -/
def ListP (l : List UInt8) (w : World) (e : Ending) (w' : World) : Prop :=
  (listL l = none ∧ ∃ A n c, e = .returned (.tuple #[.slice A n c, .bool false]) ∧ Below w.heap.size w w') ∨
  ∃ ns A c, listL l = some ns ∧ e = .returned (.tuple #[.slice A ns.length c, .bool true]) ∧ GL intE 2 w.heap.size w' (.slice A ns.length c) ns ∧ Below w.heap.size w w'
theorem ListP.bad {l : List UInt8} {w w' : World} {A : Option Addr} {n c : Nat} (h : listL l = none) (hb : Below w.heap.size w w') : ListP l w (.returned (.tuple #[.slice A n c, .bool false])) w' := .inl ⟨h, A, n, c, rfl, hb⟩
theorem ListP.ok {l : List UInt8} {w w' : World} {A : Option Addr} {n c : Nat} {ns : List Int} (h : listL l = some ns) (hn : ns.length = n) (hg : GL intE 2 w.heap.size w' (.slice A n c) ns) (hb : Below w.heap.size w w') : ListP l w (.returned (.tuple #[.slice A n c, .bool true])) w' := by
  subst hn
  exact .inr ⟨ns, A, c, h, rfl, hg, hb⟩
/-- what a reader of a name and k numbers leaves -/
def TwoP (k : Nat) (l : List UInt8) (w : World) (e : Ending) (w' : World) : Prop :=
  (namedL k l = none ∧ ∃ x A n c, e = .returned (.tuple #[.string x, .slice A n c, .bool false]) ∧ Below w.heap.size w w') ∨
  ∃ a ns A c, namedL k l = some (a, ns) ∧ ns.length = k ∧ e = .returned (.tuple #[.string (ofL a), .slice A k c, .bool true]) ∧ GL intE 2 w.heap.size w' (.slice A k c) ns ∧ Below w.heap.size w w'
theorem eq_dash {s : ByteArray} (h : s.data.toList = [45]) : (s.toList == [45]) = true := by rw [ByteArray.toList_eq, h]; rfl
theorem ne_dash {s : ByteArray} (h : s.data.toList ≠ [45]) : (s.toList == [45]) = false := by rw [ByteArray.toList_eq, beq_eq_false_iff_ne]; exact h
theorem listL_long {l : List UInt8} (h : l ≠ [45]) (hl : 64 < (cutsL 44 l).length) : listL l = none := by unfold listL; rw [if_neg h, if_pos hl]
theorem listL_nums {l : List UInt8} (h : l ≠ [45]) (hl : ¬ 64 < (cutsL 44 l).length) : listL l = numsOf (cutsL 44 l) := by unfold listL; rw [if_neg h, if_neg hl]
theorem cutsB_get {c : UInt8} {s p : ByteArray} {k : Nat} (h : (cutsB c s)[k]? = some p) : (cutsL c s.data.toList)[k]? = some p.data.toList := by
  unfold cutsB at h
  rw [List.getElem?_map] at h
  cases h1 : (cutsL c s.data.toList)[k]? with
  | none => rw [h1] at h; cases h
  | some q => rw [h1] at h; simp only [Option.map_some, Option.some.injEq] at h; rw [← h, ofL_data]
theorem cuts_sub {c : UInt8} {l p : List UInt8} (h : p ∈ cutsL c l) : p.length ≤ l.length := by
  induction l generalizing p with
  | nil => simp [cutsL] at h; subst h; simp
  | cons x r ih =>
    by_cases hx : x = c
    · subst hx
      rw [cutsL_hit] at h
      rcases List.mem_cons.1 h with rfl | h
      · simp
      · have := ih h; simp; omega
    · rw [cutsL_miss hx] at h
      cases hc : cutsL c r with
      | nil => exact absurd hc (cutsL_ne c r)
      | cons a b =>
        rw [hc] at h ih
        rcases List.mem_cons.1 h with rfl | h
        · have := ih (List.mem_cons_self ..); simp; omega
        · have := ih (List.mem_cons_of_mem _ h); simp; omega
theorem piece_size {c : UInt8} {s p : ByteArray} {k : Nat} (h : (cutsB c s)[k]? = some p) : p.size ≤ s.size := by
  have h1 := cuts_sub (List.mem_of_getElem? (cutsB_get h))
  simpa using h1
theorem numIn_bad {p : ByteArray} (h : numOk p = false) : numIn p.data.toList = none := by
  unfold numOk at h
  unfold numIn
  cases hn : numL p.data.toList with
  | none => rfl
  | some n => rw [hn] at h; cases h
theorem numIn_good {p : ByteArray} (h : numOk p = true) : numIn p.data.toList = if inB (numV p) (-1000000000000) 1000000000000 then some (numV p) else none := by
  unfold numOk at h
  unfold numIn numV
  cases hn : numL p.data.toList with
  | none => rw [hn] at h; cases h
  | some n => simp only [Option.getD_some]; unfold inB; simp only [Bool.and_eq_true, decide_eq_true_eq]

end Go.Proofs.YtbdjhecbingcjaaGreatDoor
