/- Plain law: a list of numbers between commas, and a name before it. Nothing here speaks of the program. -/
import Derived.Test.YtbdjhecbingcjaaGreatDoorNum
import Derived.Test.YtbdjhecbingcjaaGreatDoorPieces
namespace Go.Proofs.YtbdjhecbingcjaaGreatDoor
set_option linter.unusedVariables false
set_option linter.unusedSimpArgs false
set_option linter.unusedSectionVars false
open Go.Lib

/-- a number of a list -/
def numIn (l : List UInt8) : Option Int := match numL l with
  | some n => if -1000000000000 ≤ n ∧ n ≤ 1000000000000 then some n else none
  | none => none
def numsOf : List (List UInt8) → Option (List Int)
  | [] => some []
  | p :: r => match numIn p, numsOf r with
    | some n, some t => some (n :: t)
    | _, _ => none
/-- the list with a text -/
def listL (l : List UInt8) : Option (List Int) :=
  if l = [45] then some [] else if 64 < (cutsL 44 l).length then none else numsOf (cutsL 44 l)

theorem numsOf_app (a b : List (List UInt8)) : numsOf (a ++ b) = match numsOf a, numsOf b with | some x, some y => some (x ++ y) | _, _ => none := by
  induction a with
  | nil => simp only [List.nil_append, numsOf]; cases numsOf b <;> rfl
  | cons p r ih =>
    simp only [List.cons_append, numsOf, ih]
    cases numIn p <;> cases numsOf r <;> cases numsOf b <;> rfl
theorem numsOf_step {ps : List (List UInt8)} {k : Nat} {p : List UInt8} {out : List Int} {n : Int} (hp : ps[k]? = some p) (hn : numIn p = some n) (h : numsOf (ps.take k) = some out) : numsOf (ps.take (k + 1)) = some (out ++ [n]) := by
  obtain ⟨hk, rfl⟩ := List.getElem?_eq_some_iff.1 hp
  rw [← List.take_append_getElem hk, numsOf_app, h]
  simp only [numsOf, hn]
theorem numsOf_bad {ps : List (List UInt8)} {k : Nat} {p : List UInt8} (hp : ps[k]? = some p) (hn : numIn p = none) : numsOf ps = none := by
  obtain ⟨hk, rfl⟩ := List.getElem?_eq_some_iff.1 hp
  have e : ps = ps.take k ++ (ps[k] :: ps.drop (k + 1)) := by rw [← List.drop_eq_getElem_cons hk, List.take_append_drop]
  rw [e, numsOf_app]
  simp only [numsOf, hn]
  cases numsOf (ps.take k) <;> rfl
theorem numsOf_len {ps : List (List UInt8)} : ∀ {out : List Int}, numsOf ps = some out → out.length = ps.length := by
  induction ps with
  | nil => intro out h; simp only [numsOf, Option.some.injEq] at h; subst h; rfl
  | cons p r ih =>
    intro out h
    simp only [numsOf] at h
    cases h1 : numIn p with
    | none => rw [h1] at h; cases h
    | some n =>
      cases h2 : numsOf r with
      | none => rw [h1, h2] at h; cases h
      | some t =>
        rw [h1, h2] at h
        simp only [Option.some.injEq] at h
        subst h
        simp [ih h2]
theorem numIn_range {l : List UInt8} {n : Int} (h : numIn l = some n) : -1000000000000 ≤ n ∧ n ≤ 1000000000000 ∧ numL l = some n := by
  unfold numIn at h
  cases h1 : numL l with
  | none => rw [h1] at h; cases h
  | some m =>
    rw [h1] at h
    simp only at h
    split at h
    · rename_i hr
      injection h with h
      subst h
      exact ⟨hr.1, hr.2, rfl⟩
    · cases h
theorem numsOf_range {ps : List (List UInt8)} : ∀ {out : List Int}, numsOf ps = some out → ∀ n ∈ out, -1000000000000 ≤ n ∧ n ≤ 1000000000000 := by
  induction ps with
  | nil => intro out h; simp only [numsOf, Option.some.injEq] at h; subst h; intro n hn; cases hn
  | cons p r ih =>
    intro out h
    simp only [numsOf] at h
    cases h1 : numIn p with
    | none => rw [h1] at h; cases h
    | some m =>
      cases h2 : numsOf r with
      | none => rw [h1, h2] at h; cases h
      | some t =>
        rw [h1, h2] at h
        simp only [Option.some.injEq] at h
        subst h
        intro n hn
        rcases List.mem_cons.1 hn with rfl | hn
        · exact ⟨(numIn_range h1).1, (numIn_range h1).2.1⟩
        · exact ih h2 n hn
theorem listL_range {l : List UInt8} {out : List Int} (h : listL l = some out) : (∀ n ∈ out, -1000000000000 ≤ n ∧ n ≤ 1000000000000) ∧ out.length ≤ 64 := by
  unfold listL at h
  split at h
  · injection h with h; subst h; exact ⟨fun n hn => (by cases hn), by simp⟩
  · split at h
    · cases h
    · rename_i hl
      exact ⟨numsOf_range h, by rw [numsOf_len h]; omega⟩
/-- the bytes of a numeral -/
theorem num_bytes {l : List UInt8} {n : Int} (h : numL l = some n) : ∀ c ∈ l, c = 45 ∨ (48 ≤ c.toNat ∧ c.toNat ≤ 57) := by
  have dig : ∀ (l : List UInt8) (m : Nat), decNat l = some m → ∀ c ∈ l, 48 ≤ c.toNat ∧ c.toNat ≤ 57 := fun l m h c hc => by
    obtain ⟨k, hk⟩ := List.mem_iff_getElem?.1 hc
    obtain ⟨d, hd⟩ := digit_of_decFrom l 0 m (decNat_ne h).2 k c hk
    unfold digitVal at hd
    split at hd
    · assumption
    · cases hd
  unfold numL at h
  cases l with
  | nil => cases h
  | cons x r =>
    simp only at h
    intro c hc
    by_cases h45 : x = 45
    · rw [if_pos h45] at h
      split at h
      · cases h
      · cases hd : decNat r with
        | none => rw [hd] at h; cases h
        | some m =>
          rcases List.mem_cons.1 hc with rfl | hc
          · exact .inl h45
          · exact .inr (dig r m hd c hc)
    · rw [if_neg h45] at h
      split at h
      · cases h
      · cases hd : decNat (x :: r) with
        | none => rw [hd] at h; cases h
        | some m => exact .inr (dig _ m hd c hc)
theorem nums_bytes {ps : List (List UInt8)} : ∀ {out : List Int}, numsOf ps = some out → ∀ p ∈ ps, ∀ c ∈ p, c = 45 ∨ (48 ≤ c.toNat ∧ c.toNat ≤ 57) := by
  induction ps with
  | nil => intro out h p hp; cases hp
  | cons q r ih =>
    intro out h p hp
    simp only [numsOf] at h
    cases h1 : numIn q with
    | none => rw [h1] at h; cases h
    | some m =>
      cases h2 : numsOf r with
      | none => rw [h1, h2] at h; cases h
      | some t =>
        rcases List.mem_cons.1 hp with rfl | hp
        · exact num_bytes (numIn_range h1).2.2
        · exact ih h2 p hp
theorem mem_joinC {c x : UInt8} : ∀ {l : List (List UInt8)}, x ∈ joinC c l → x = c ∨ ∃ p ∈ l, x ∈ p
  | [], h => by cases h
  | [p], h => .inr ⟨p, List.mem_cons_self .., h⟩
  | p :: q :: r, h => by
    rw [joinC] at h
    rcases List.mem_append.1 h with h | h
    · exact .inr ⟨p, List.mem_cons_self .., h⟩
    · rcases List.mem_cons.1 h with h | h
      · exact .inl h
      · rcases mem_joinC h with h | ⟨p', hp', h⟩
        · exact .inl h
        · exact .inr ⟨p', List.mem_cons_of_mem _ hp', h⟩
/-- the bytes of a list's text -/
theorem list_bytes {l : List UInt8} {out : List Int} (h : listL l = some out) : ∀ c ∈ l, c = 44 ∨ c = 45 ∨ (48 ≤ c.toNat ∧ c.toNat ≤ 57) := by
  unfold listL at h
  intro c hc
  split at h
  · rename_i e; rw [e] at hc; simp at hc; exact .inr (.inl hc)
  · split at h
    · cases h
    · rw [← join_cuts 44 l] at hc
      rcases mem_joinC hc with e | ⟨p, hp, hcp⟩
      · exact .inl e
      · exact .inr (nums_bytes h p hp c hcp)
theorem list_noblank {l : List UInt8} {out : List Int} (h : listL l = some out) : (32 : UInt8) ∉ l := fun hm => by
  rcases list_bytes h 32 hm with e | e | ⟨e, _⟩
  · exact absurd e (by decide)
  · exact absurd e (by decide)
  · exact absurd e (by decide)

/-- a name and a list of k numbers behind a blank -/
def namedL (k : Nat) (l : List UInt8) : Option (List UInt8 × List Int) :=
  match cutsL 32 l with
  | [a, b] => (match listL b with | some n => if n.length = k then some (a, n) else none | none => none)
  | _ => none
def cutL (k : Nat) (l : List UInt8) : Option (List UInt8 × List Int) :=
  if (32 : UInt8) ∈ l then (match listL (tailC 32 l) with | some n => if n.length = k then some (headC 32 l, n) else none | none => none) else none
theorem cut_named (k : Nat) (l : List UInt8) : cutL k l = namedL k l := by
  unfold cutL namedL
  by_cases hm : (32 : UInt8) ∈ l
  · rw [if_pos hm, cuts_head hm]
    by_cases h2 : (32 : UInt8) ∈ tailC 32 l
    · have hn : listL (tailC 32 l) = none := by
        cases h : listL (tailC 32 l) with
        | none => rfl
        | some n => exact absurd h2 (list_noblank h)
      rw [hn, cuts_head h2]
      cases hc : cutsL 32 (tailC 32 (tailC 32 l)) with
      | nil => exact absurd hc (cutsL_ne _ _)
      | cons x y => rfl
    · rw [cuts_none h2]
  · rw [if_neg hm, cuts_none hm]
end Go.Proofs.YtbdjhecbingcjaaGreatDoor
