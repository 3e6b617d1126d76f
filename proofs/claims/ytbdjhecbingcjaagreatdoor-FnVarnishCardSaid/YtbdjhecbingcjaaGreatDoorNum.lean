/- Plain law: a decimal of at most 18 digits, read digit by digit, is what strconv.ParseInt reads where the numeral is its own. Nothing here speaks of the program. -/
import Derived.Lib.AtoiTie
import Derived.Lib.ParseIntBTie
import Derived.Lib.ItoaNum
import Derived.Lib.Strings
namespace Go.Proofs.YtbdjhecbingcjaaGreatDoor
set_option linter.unusedVariables false
set_option linter.unusedSimpArgs false
set_option linter.unusedSectionVars false
open Go.Lib

theorem decFrom_append (a b : List UInt8) : ∀ acc, decFrom acc (a ++ b) = (decFrom acc a).bind fun m => decFrom m b := by
  induction a with
  | nil => intro acc; rfl
  | cons x r ih =>
    intro acc
    simp only [List.cons_append, decFrom]
    cases digitVal x with
    | none => rfl
    | some d => exact ih _
theorem ofNat_toNat8 {k : Nat} (h : k < 256) : (UInt8.ofNat k).toNat = k := by
  simp [Nat.mod_eq_of_lt h]
theorem digitVal_of {d : Nat} (h : d < 10) : digitVal (UInt8.ofNat (48 + d)) = some d := by
  unfold digitVal
  rw [ofNat_toNat8 (by omega), if_pos (by omega)]
  congr 1
  omega
theorem of_digitVal {c : UInt8} {d : Nat} (h : digitVal c = some d) : d < 10 ∧ c = UInt8.ofNat (48 + d) := by
  unfold digitVal at h
  split at h
  · injection h with h
    refine ⟨by omega, UInt8.toNat_inj.1 ?_⟩
    rw [ofNat_toNat8 (by omega)]
    omega
  · cases h
theorem decDigits_step {v d : Nat} (hv : 1 ≤ v) (hd : d < 10) : decDigits (v * 10 + d) = decDigits v ++ [UInt8.ofNat (48 + d)] := by
  rw [decDigits, dif_neg (by omega)]
  have h1 : (v * 10 + d) / 10 = v := by omega
  have h2 : (v * 10 + d) % 10 = d := by omega
  rw [h1, h2]
theorem decDigits_big {u : Nat} (h : ¬ u < 10) : decDigits u = decDigits (u / 10) ++ [UInt8.ofNat (48 + u % 10)] := by
  conv => lhs; rw [decDigits, dif_neg h]
theorem decDigits_ne (u : Nat) : decDigits u ≠ [] := by
  rw [decDigits]
  split <;> simp
theorem dec_digits (u : Nat) : decFrom 0 (decDigits u) = some u := by
  induction u using Nat.strongRecOn with
  | ind u ih =>
    by_cases h : u < 10
    · rw [decDigits_one h]
      simp only [decFrom, digitVal_of h]
      congr 1
      omega
    · rw [decDigits_big h, decFrom_append, ih _ (by omega)]
      simp only [Option.bind, decFrom, digitVal_of (show u % 10 < 10 by omega)]
      congr 1
      omega
theorem head_digits {u : Nat} (h : 1 ≤ u) : ∃ c r, decDigits u = c :: r ∧ c ≠ 48 := by
  induction u using Nat.strongRecOn with
  | ind u ih =>
    by_cases h9 : u < 10
    · refine ⟨_, [], decDigits_one h9, fun e => ?_⟩
      have := congrArg UInt8.toNat e
      rw [ofNat_toNat8 (by omega)] at this
      simp at this
      omega
    · obtain ⟨c, r, e, hc⟩ := ih (u / 10) (by omega) (by omega)
      refine ⟨c, r ++ [UInt8.ofNat (48 + u % 10)], ?_, hc⟩
      rw [decDigits_big h9, e]
      rfl
theorem dec_pos {l : List UInt8} {c : UInt8} {u : Nat} (hc : c ≠ 48) (h : decFrom 0 (c :: l) = some u) : 1 ≤ u := by
  have mono : ∀ (l : List UInt8) (a u : Nat), decFrom a l = some u → a ≤ u := by
    intro l
    induction l with
    | nil => intro a u h; simp only [decFrom, Option.some.injEq] at h; omega
    | cons x r ih =>
      intro a u h
      simp only [decFrom] at h
      cases hx : digitVal x with
      | none => rw [hx] at h; cases h
      | some d => rw [hx] at h; have := ih _ _ h; omega
  simp only [decFrom] at h
  cases hx : digitVal c with
  | none => rw [hx] at h; cases h
  | some d =>
    rw [hx] at h
    have h1 := mono _ _ _ h
    obtain ⟨_, e⟩ := of_digitVal hx
    have : d ≠ 0 := fun e0 => by subst e0; exact hc e
    omega
theorem digits_own : ∀ (n : Nat) (l : List UInt8), l.length = n → ∀ (c : UInt8) (r : List UInt8), l = c :: r → (c ≠ 48 ∨ r = []) → ∀ u, decFrom 0 l = some u → decDigits u = l := by
  intro n
  induction n with
  | zero => intro l hl c r e; subst e; simp at hl
  | succ n ih =>
    intro l hl c r e hc u hu
    rcases List.eq_nil_or_concat r with h0 | ⟨r', x, h0⟩
    · subst e h0
      simp only [decFrom] at hu
      cases hx : digitVal c with
      | none => rw [hx] at hu; cases hu
      | some d =>
        rw [hx] at hu
        obtain ⟨hd, e⟩ := of_digitVal hx
        simp only [Option.some.injEq] at hu
        obtain rfl : d = u := by omega
        rw [decDigits_one hd, e]
    · rw [List.concat_eq_append] at h0
      have hc' : c ≠ 48 := hc.resolve_right (by rw [h0]; simp)
      have el : l = (c :: r') ++ [x] := by rw [e, h0]; rfl
      rw [el, decFrom_append] at hu
      cases hv : decFrom 0 (c :: r') with
      | none => rw [hv] at hu; cases hu
      | some v =>
        rw [hv] at hu
        simp only [Option.bind, decFrom] at hu
        cases hx : digitVal x with
        | none => rw [hx] at hu; cases hu
        | some d =>
          rw [hx] at hu
          obtain ⟨hd, e2⟩ := of_digitVal hx
          simp only [Option.some.injEq] at hu
          have h1 := ih (c :: r') (by rw [el] at hl; simp at hl ⊢; omega) c r' rfl (.inl hc') v hv
          rw [← hu, decDigits_step (dec_pos hc' hv) hd, h1, el, e2]

/-- The number that a decimal of at most 18 digits spells. -/
def numL (l : List UInt8) : Option Int :=
  match l with
  | [] => none
  | c :: r =>
    if c = 45 then (if 18 < r.length ∨ r.head? = some 48 then none else (decNat r).map fun (m : Nat) => -(m : Int))
    else if 18 < l.length ∨ c = 48 ∧ r ≠ [] then none else (decNat l).map fun (m : Nat) => (m : Int)
/-- What the program reads: at most 18 bytes behind a sign, a number, whose own text this is. -/
def readL (l : List UInt8) : Option Int :=
  if 18 < (trimPrefix l [45]).length then none else
  match parseIntB 64 l with
  | .ok n => if itoa n = l then some n else none
  | _ => none

theorem trim45 (l : List UInt8) : trimPrefix l [45] = match l with | [] => [] | c :: r => if c = 45 then r else c :: r := by
  unfold trimPrefix hasPrefix
  cases l with
  | nil => rfl
  | cons c r =>
    by_cases h : c = 45
    · subst h; simp
    · have : ¬ (45 : UInt8) = c := fun e => h e.symm
      simp [h, this]
theorem decNat_ne {l : List UInt8} {m : Nat} (h : decNat l = some m) : l ≠ [] ∧ decFrom 0 l = some m := by
  unfold decNat at h
  split at h
  · cases h
  · rename_i he
    exact ⟨fun e => by subst e; simp at he, h⟩
theorem decNat_digits (u : Nat) : decNat (decDigits u) = some u := by
  unfold decNat
  rw [if_neg (by have := decDigits_ne u; simpa using this), dec_digits]
theorem digits_minus {u : Nat} {c : UInt8} {r : List UInt8} (h : decDigits u = c :: r) : c ≠ 45 := fun e => by
  have h1 := dec_digits u
  rw [h, e] at h1
  simp [decFrom, digitVal] at h1
theorem num_of_itoa {n : Int} {l : List UInt8} (h18 : (trimPrefix l [45]).length ≤ 18) (h : itoa n = l) : numL l = some n := by
  unfold itoa at h
  rw [trim45] at h18
  by_cases hn : n < 0
  · rw [if_pos hn] at h
    subst h
    simp only [if_true] at h18
    obtain ⟨c, r, e, hc⟩ := head_digits (u := n.natAbs) (by omega)
    have h2 : numL (45 :: decDigits n.natAbs) = (decNat (decDigits n.natAbs)).map fun (m : Nat) => -(m : Int) := by
      unfold numL
      simp only
      rw [if_pos trivial, if_neg (by rw [e] at h18 ⊢; simp only [List.head?_cons, Option.some.injEq]; exact fun h => h.elim (fun h => by omega) hc)]
    rw [h2, decNat_digits]
    simp only [Option.map_some, Option.some.injEq]
    omega
  · rw [if_neg hn] at h
    subst h
    obtain ⟨c, r, e⟩ : ∃ c r, decDigits n.toNat = c :: r := by
      cases hd : decDigits n.toNat with
      | nil => exact absurd hd (decDigits_ne _)
      | cons c r => exact ⟨c, r, rfl⟩
    have hc45 := digits_minus e
    have hlead : ¬ (c = 48 ∧ r ≠ []) := by
      by_cases h0 : n.toNat = 0
      · rw [h0, decDigits_one (by omega)] at e
        injection e with _ e
        exact fun h => h.2 e.symm
      · obtain ⟨c', r', e', hc'⟩ := head_digits (u := n.toNat) (by omega)
        rw [e] at e'
        injection e' with e1 _
        exact fun h => hc' (e1 ▸ h.1)
    rw [e] at h18
    simp only [if_neg hc45] at h18
    have h2 : numL (decDigits n.toNat) = (decNat (decDigits n.toNat)).map fun (m : Nat) => (m : Int) := by
      rw [e]
      unfold numL
      simp only
      rw [if_neg hc45, if_neg (by intro h; rcases h with h | h; exact absurd h (by omega); exact hlead h)]
    rw [h2, decNat_digits]
    simp only [Option.map_some, Option.some.injEq]
    omega
theorem itoa_of_num {n : Int} {l : List UInt8} (h : numL l = some n) : (trimPrefix l [45]).length ≤ 18 ∧ itoa n = l ∧ parseIntB 64 l = .ok n := by
  unfold numL at h
  cases l with
  | nil => cases h
  | cons c r =>
    simp only at h
    rw [trim45]
    simp only
    by_cases h45 : c = 45
    · subst h45
      rw [if_pos rfl] at h
      split at h
      · cases h
      · rename_i hh
        cases hd : decNat r with
        | none => rw [hd] at h; cases h
        | some m =>
          rw [hd] at h
          simp only [Option.map_some, Option.some.injEq] at h
          obtain ⟨hne, hm⟩ := decNat_ne hd
          cases r with
          | nil => exact absurd rfl hne
          | cons x t =>
            have hx : x ≠ 48 := fun e => hh (.inr (by rw [e]; rfl))
            have h1 := digits_own _ (x :: t) rfl x t rfl (.inl hx) m hm
            have hp := dec_pos hx hm
            refine ⟨by simp only [if_true]; simp at hh ⊢; omega, ?_, ?_⟩
            · subst h
              unfold itoa
              rw [if_pos (by omega)]
              simp only [Int.natAbs_neg, Int.natAbs_natCast]
              rw [h1]
            · rw [parseIntB_64, atoiAll_minus, signed_short (by omega), hd]
              simp only [Option.map_some, NumEnd.ofOption]
              rw [h]
    · rw [if_neg h45] at h
      rw [if_neg h45]
      split at h
      · cases h
      · rename_i hh
        cases hd : decNat (c :: r) with
        | none => rw [hd] at h; cases h
        | some m =>
          rw [hd] at h
          simp only [Option.map_some, Option.some.injEq] at h
          obtain ⟨hne, hm⟩ := decNat_ne hd
          have hx : c ≠ 48 ∨ r = [] := by
            by_cases h0 : r = []
            · exact .inr h0
            · exact .inl fun e => hh (.inr ⟨e, h0⟩)
          have h1 := digits_own _ (c :: r) rfl c r rfl hx m hm
          have h43 : c ≠ 43 := fun e => by
            subst e
            simp [decFrom, digitVal] at hm
          refine ⟨by omega, ?_, ?_⟩
          · subst h
            unfold itoa
            rw [if_neg (by omega)]
            simp only [Int.toNat_natCast]
            exact h1
          · rw [parseIntB_64, atoiAll_plain c r (fun e => h43 (UInt8.toNat_inj.1 e)) (fun e => h45 (UInt8.toNat_inj.1 e)), signless_short (by omega), hd]
            simp only [Option.map_some, NumEnd.ofOption]
            rw [h]
theorem read_num (l : List UInt8) : readL l = numL l := by
  cases hn : numL l with
  | some n =>
    obtain ⟨h1, h2, h3⟩ := itoa_of_num hn
    unfold readL
    rw [if_neg (by omega), h3]
    simp only [if_pos h2]
  | none =>
    unfold readL
    split
    · rfl
    · rename_i h18
      split
      · split
        · rename_i h2
          rw [num_of_itoa (by omega) h2] at hn
          cases hn
        · rfl
      · rfl
end Go.Proofs.YtbdjhecbingcjaaGreatDoor
