/- Plain law: the text of a list of numbers, and that it is the one text with that list. Nothing here speaks of the program. -/
import Derived.Test.YthfedegmplmgfaaGreatDoorNums
namespace Go.Proofs.YthfedegmplmgfaaGreatDoor
set_option linter.unusedVariables false
set_option linter.unusedSimpArgs false
set_option linter.unusedSectionVars false
open Go.Lib

/-- the text of a list of numbers -/
def textL (ns : List Int) : List UInt8 := if ns = [] then [45] else joinC 44 (ns.map itoa)
theorem digits_len : ∀ (k u : Nat), 1 ≤ k → u < 10 ^ k → (decDigits u).length ≤ k := by
  intro k
  induction k with
  | zero => intro u h; omega
  | succ k ih =>
    intro u _ hu
    by_cases h : u < 10
    · rw [decDigits_one h]; simp
    · rw [decDigits_big h]
      have hk : 1 ≤ k := by
        cases k with
        | zero => rw [Nat.pow_one] at hu; omega
        | succ k => omega
      have := ih (u / 10) hk (by rw [Nat.pow_succ] at hu; omega)
      simp only [List.length_append, List.length_cons, List.length_nil]
      omega
theorem num_itoa {n : Int} (h : -1000000000000 ≤ n ∧ n ≤ 1000000000000) : numL (itoa n) = some n := by
  refine num_of_itoa ?_ rfl
  rw [trim45]
  unfold itoa
  by_cases hn : n < 0
  · rw [if_pos hn]
    simp only [if_true]
    have := digits_len 13 n.natAbs (by omega) (by have : (10 : Nat) ^ 13 = 10000000000000 := by decide
                                                  omega)
    omega
  · rw [if_neg hn]
    have := digits_len 13 n.toNat (by omega) (by have : (10 : Nat) ^ 13 = 10000000000000 := by decide
                                                 omega)
    split
    · simp
    · rename_i c r e
      rw [e] at this
      split
      · simp at this; omega
      · omega
theorem itoa_bytes (n : Int) (h : -1000000000000 ≤ n ∧ n ≤ 1000000000000) : ∀ c ∈ itoa n, c = 45 ∨ (48 ≤ c.toNat ∧ c.toNat ≤ 57) := num_bytes (num_itoa h)
theorem itoa_ne (n : Int) : itoa n ≠ [] := by
  unfold itoa
  split
  · simp
  · exact decDigits_ne _
theorem itoa_no {n : Int} (h : -1000000000000 ≤ n ∧ n ≤ 1000000000000) {c : UInt8} (hc : c.toNat < 45 ∨ c.toNat = 46 ∨ c.toNat = 47 ∨ 57 < c.toNat) : c ∉ itoa n := fun hm => by
  rcases itoa_bytes n h c hm with e | e
  · subst e; rcases hc with h | h | h | h <;> simp at h
  · omega
theorem numIn_itoa {n : Int} (h : -1000000000000 ≤ n ∧ n ≤ 1000000000000) : numIn (itoa n) = some n := by
  unfold numIn
  rw [num_itoa h]
  simp only [if_pos h]
theorem numsOf_itoa {ns : List Int} (h : ∀ n ∈ ns, -1000000000000 ≤ n ∧ n ≤ 1000000000000) : numsOf (ns.map itoa) = some ns := by
  induction ns with
  | nil => rfl
  | cons n r ih =>
    simp only [List.map_cons, numsOf, numIn_itoa (h n (List.mem_cons_self ..)), ih fun x hx => h x (List.mem_cons_of_mem _ hx)]
theorem cuts_text {ns : List Int} (hne : ns ≠ []) (h : ∀ n ∈ ns, -1000000000000 ≤ n ∧ n ≤ 1000000000000) : cutsL 44 (textL ns) = ns.map itoa := by
  unfold textL
  rw [if_neg hne]
  refine cuts_join (by simpa using hne) fun p hp => ?_
  obtain ⟨n, hn, rfl⟩ := List.mem_map.1 hp
  exact itoa_no (h n hn) (.inl (by decide))
theorem list_text {ns : List Int} (h : ∀ n ∈ ns, -1000000000000 ≤ n ∧ n ≤ 1000000000000) (hl : ns.length ≤ 64) : listL (textL ns) = some ns := by
  unfold listL
  by_cases hne : ns = []
  · subst hne; rfl
  · have h45 : textL ns ≠ [45] := fun e => by
      have h1 := cuts_text hne h
      rw [e] at h1
      cases ns with
      | nil => exact hne rfl
      | cons n r =>
        have h2 : itoa n = [45] := by
          have : cutsL 44 [45] = [[45]] := by decide
          rw [this] at h1
          simp only [List.map_cons, List.cons.injEq] at h1
          exact h1.1.symm
        have h3 := num_itoa (h n (List.mem_cons_self ..))
        rw [h2] at h3
        simp [numL, decNat] at h3
    rw [if_neg h45, cuts_text hne h, if_neg (by simpa using hl)]
    exact numsOf_itoa h
theorem text_of_nums {ps : List (List UInt8)} : ∀ {ns : List Int}, numsOf ps = some ns → ns.map itoa = ps := by
  induction ps with
  | nil => intro ns h; simp only [numsOf, Option.some.injEq] at h; subst h; rfl
  | cons p r ih =>
    intro ns h
    simp only [numsOf] at h
    cases h1 : numIn p with
    | none => rw [h1] at h; cases h
    | some m =>
      cases h2 : numsOf r with
      | none => rw [h1, h2] at h; cases h
      | some t =>
        rw [h1, h2] at h
        simp only [Option.some.injEq] at h
        subst h
        rw [List.map_cons, ih h2, (itoa_of_num (numIn_range h1).2.2).2.1]
theorem text_of_list {t : List UInt8} {ns : List Int} (h : listL t = some ns) : textL ns = t := by
  unfold listL at h
  split at h
  · rename_i e; injection h with h; subst h; rw [e]; rfl
  · split at h
    · cases h
    · have h1 := text_of_nums h
      have hne : ns ≠ [] := fun e => by
        subst e
        exact cutsL_ne 44 t h1.symm
      unfold textL
      rw [if_neg hne, h1, join_cuts]
theorem textL_noblank {ns : List Int} (h : ∀ n ∈ ns, -1000000000000 ≤ n ∧ n ≤ 1000000000000) : (32 : UInt8) ∉ textL ns := fun hm => by
  unfold textL at hm
  split at hm
  · simp at hm
  · rcases mem_joinC hm with e | ⟨p, hp, hc⟩
    · exact absurd e (by decide)
    · obtain ⟨n, hn, rfl⟩ := List.mem_map.1 hp
      exact itoa_no (h n hn) (.inl (by decide)) hc
/-- the words of a text: its pieces that are not empty -/
def wordsL (l : List UInt8) : List (List UInt8) := (cutsL 32 l).filter fun p => !p.isEmpty
theorem words_of_join {ps : List (List UInt8)} (hne : ps ≠ []) (h : ∀ p ∈ ps, (32 : UInt8) ∉ p ∧ p ≠ []) : wordsL (joinC 32 ps) = ps := by
  unfold wordsL
  rw [cuts_join hne fun p hp => (h p hp).1]
  refine List.filter_eq_self.2 fun p hp => ?_
  have := (h p hp).2
  cases p with
  | nil => exact absurd rfl this
  | cons x y => rfl
end Go.Proofs.YthfedegmplmgfaaGreatDoor
