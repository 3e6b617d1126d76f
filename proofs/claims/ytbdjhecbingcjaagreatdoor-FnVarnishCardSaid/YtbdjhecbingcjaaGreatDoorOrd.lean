/- The order of texts: Go's '<' and strings.Compare; nothing here speaks of the program. -/
import Derived.Test.YtbdjhecbingcjaaGreatDoorMem
import Derived.Lib.Bytealg
import Derived.Lib.IndexLaws
namespace Go.Proofs.YtbdjhecbingcjaaGreatDoor
set_option linter.unusedVariables false
set_option linter.unusedSimpArgs false
set_option linter.unusedSectionVars false
open Go.RowKit

/-- a stands before b -/
def ltS (a b : ByteArray) : Bool := Op.bytesLess a.toList b.toList
def cmpS (a b : ByteArray) : Int := Lib.compareBytes a.data.toList b.data.toList
theorem cmp_lt : ∀ (a b : List UInt8), (Lib.compareBytes a b < 0) = (Op.bytesLess a b = true)
  | [], [] => by simp [Lib.compareBytes, Op.bytesLess]
  | [], _ :: _ => by simp [Lib.compareBytes, Op.bytesLess]
  | _ :: _, [] => by simp [Lib.compareBytes, Op.bytesLess]
  | x :: a, y :: b => by
    have ih := cmp_lt a b
    simp only [Lib.compareBytes, Op.bytesLess]
    by_cases h1 : x < y
    · simp [h1]
    · by_cases h2 : y < x
      · have : x ≠ y := fun e => by subst e; exact h1 h2
        simp [h1, h2, this]
      · have e : x = y := UInt8.le_antisymm (UInt8.not_lt.1 h2) (UInt8.not_lt.1 h1)
        subst e
        simp [ih]
theorem cmp_eq0 : ∀ (a b : List UInt8), (Lib.compareBytes a b = 0) = (a = b)
  | [], [] => by simp [Lib.compareBytes]
  | [], _ :: _ => by simp [Lib.compareBytes]
  | _ :: _, [] => by simp [Lib.compareBytes]
  | x :: a, y :: b => by
    have ih := cmp_eq0 a b
    simp only [Lib.compareBytes]
    by_cases h1 : x < y
    · have : x ≠ y := fun e => by subst e; exact UInt8.lt_irrefl _ h1
      simp [h1, this]
    · by_cases h2 : y < x
      · have : x ≠ y := fun e => by subst e; exact h1 h2
        simp [h1, h2, this]
      · have e : x = y := UInt8.le_antisymm (UInt8.not_lt.1 h2) (UInt8.not_lt.1 h1)
        subst e
        simp [ih]
theorem cmp_swap : ∀ (a b : List UInt8), Lib.compareBytes b a = - Lib.compareBytes a b
  | [], [] => rfl
  | [], _ :: _ => rfl
  | _ :: _, [] => rfl
  | x :: a, y :: b => by
    have ih := cmp_swap a b
    simp only [Lib.compareBytes]
    by_cases h1 : x < y
    · have h2 : ¬ y < x := UInt8.lt_asymm h1
      simp [h1, h2]
    · by_cases h2 : y < x
      · simp [h1, h2]
      · simp [h1, h2, ih]
theorem cmp_vals : ∀ (a b : List UInt8), Lib.compareBytes a b = -1 ∨ Lib.compareBytes a b = 0 ∨ Lib.compareBytes a b = 1
  | [], [] => .inr (.inl rfl)
  | [], _ :: _ => .inl rfl
  | _ :: _, [] => .inr (.inr rfl)
  | x :: a, y :: b => by
    simp only [Lib.compareBytes]
    split
    · exact .inl rfl
    · split
      · exact .inr (.inr rfl)
      · exact cmp_vals a b
theorem cmp_trans : ∀ (a b c : List UInt8), Lib.compareBytes a b < 0 → Lib.compareBytes b c < 0 → Lib.compareBytes a c < 0
  | [], _, [], h1, h2 => by cases ‹List UInt8› <;> simp [Lib.compareBytes] at h1 h2
  | [], _, _ :: _, _, _ => by simp [Lib.compareBytes]
  | _ :: _, [], _, h1, _ => by simp [Lib.compareBytes] at h1
  | _ :: _, _ :: _, [], _, h2 => by simp [Lib.compareBytes] at h2
  | x :: a, y :: b, z :: c, h1, h2 => by
    simp only [Lib.compareBytes] at h1 h2 ⊢
    by_cases hxy : x < y
    · by_cases hyz : y < z
      · rw [if_pos (UInt8.lt_trans hxy hyz)]; omega
      · by_cases hzy : z < y
        · rw [if_neg hyz, if_pos hzy] at h2; omega
        · have e : y = z := UInt8.le_antisymm (UInt8.not_lt.1 hzy) (UInt8.not_lt.1 hyz)
          subst e
          rw [if_pos hxy]; omega
    · by_cases hyx : y < x
      · rw [if_neg hxy, if_pos hyx] at h1; omega
      · have e : x = y := UInt8.le_antisymm (UInt8.not_lt.1 hyx) (UInt8.not_lt.1 hxy)
        subst e
        rw [if_neg hxy, if_neg hxy] at h1
        by_cases hyz : x < z
        · rw [if_pos hyz]; omega
        · by_cases hzy : z < x
          · rw [if_neg hyz, if_pos hzy] at h2; omega
          · rw [if_neg hyz, if_neg hzy] at h2 ⊢
            exact cmp_trans a b c h1 h2

theorem ltS_cmp (a b : ByteArray) : ltS a b = decide (cmpS a b < 0) := by
  unfold ltS cmpS
  rw [ByteArray.toList_eq, ByteArray.toList_eq, Bool.eq_iff_iff, decide_eq_true_iff, cmp_lt]
theorem cmpS_zero (a b : ByteArray) : cmpS a b = 0 ↔ a = b := by
  unfold cmpS
  rw [cmp_eq0]
  exact ⟨ba_ext, fun h => by rw [h]⟩
theorem cmpS_swap (a b : ByteArray) : cmpS b a = - cmpS a b := cmp_swap _ _
theorem cmpS_vals (a b : ByteArray) : cmpS a b = -1 ∨ cmpS a b = 0 ∨ cmpS a b = 1 := cmp_vals _ _
theorem cmpS_trans {a b c : ByteArray} (h1 : cmpS a b < 0) (h2 : cmpS b c < 0) : cmpS a c < 0 := cmp_trans _ _ _ h1 h2
theorem eqS_iff (a b : ByteArray) : (a.toList == b.toList) = decide (a = b) := by
  rw [Bool.eq_iff_iff, beq_iff_eq, decide_eq_true_iff, ByteArray.toList_eq, ByteArray.toList_eq]
  exact ⟨ba_ext, fun h => by rw [h]⟩

theorem index_any (l : List UInt8) (c : UInt8) : decide (0 ≤ Lib.indexByte l c) = l.any (· == c) := by
  induction l with
  | nil => simp [Lib.indexByte]
  | cons b r ih =>
    have hg := Lib.indexByte_ge r c
    simp only [Lib.indexByte, List.any_cons, ← ih]
    by_cases hb : (b == c) = true
    · simp [hb]
    · have hb' : (b == c) = false := by simpa using hb
      simp only [hb', Bool.false_eq_true, if_false, Bool.false_or]
      by_cases h : Lib.indexByte r c = -1
      · simp [h]
      · have h0 : 0 ≤ Lib.indexByte r c := by omega
        have h1 : (Lib.indexByte r c == -1) = false := by simpa using h
        simp only [h1, Bool.false_eq_true, if_false]
        rw [decide_eq_true (by omega), decide_eq_true h0]

/-- each is as it should be, and each stands before the next one -/
def chainB {α : Type} (ok : α → Bool) (lt : α → α → Bool) : Option α → List α → Bool
  | _, [] => true
  | none, x :: r => ok x && chainB ok lt (some x) r
  | some p, x :: r => ok x && (lt p x && chainB ok lt (some x) r)
/-- what stands ahead of place k -/
def prevOf {α : Type} (l : List α) (k : Nat) : Option α := if k = 0 then none else l[k - 1]?
theorem prevOf_succ {α : Type} {l : List α} {k : Nat} {x : α} (h : l[k]? = some x) : prevOf l (k + 1) = some x := by
  unfold prevOf
  rw [if_neg (by omega), Nat.add_sub_cancel, h]
theorem chain_first {α : Type} {ok : α → Bool} {lt : α → α → Bool} {l : List α} {x : α} (h : l[0]? = some x) : chainB ok lt (prevOf l 0) (l.drop 0) = (ok x && chainB ok lt (prevOf l 1) (l.drop 1)) := by
  rw [drop_of_get h, prevOf_succ h]; rfl
theorem chain_next {α : Type} {ok : α → Bool} {lt : α → α → Bool} {l : List α} {j : Nat} {p x : α} (hp : l[j]? = some p) (h : l[j + 1]? = some x) :
    chainB ok lt (prevOf l (j + 1)) (l.drop (j + 1)) = (ok x && (lt p x && chainB ok lt (prevOf l (j + 2)) (l.drop (j + 2)))) := by
  rw [drop_of_get h, prevOf_succ h, prevOf_succ hp]; rfl
theorem chain_sorted {α : Type} {ok : α → Bool} {lt : α → α → Bool} (htr : ∀ x y z, lt x y = true → lt y z = true → lt x z = true) :
    ∀ (l : List α) (o : Option α), chainB ok lt o l = true → (∀ x ∈ l, ok x = true) ∧ l.Pairwise (fun x y => lt x y = true) ∧ ∀ p, o = some p → ∀ x ∈ l, lt p x = true
  | [], o, _ => ⟨by simp, .nil, by simp⟩
  | y :: l, none, h => by
    rw [chainB, Bool.and_eq_true] at h
    obtain ⟨h1, h2, h3⟩ := chain_sorted htr l (some y) h.2
    exact ⟨fun x hx => (List.mem_cons.1 hx).elim (fun e => e ▸ h.1) (h1 x), .cons (h3 y rfl) h2, fun p hp => by cases hp⟩
  | y :: l, some q, h => by
    rw [chainB, Bool.and_eq_true, Bool.and_eq_true] at h
    obtain ⟨h1, h2, h3⟩ := chain_sorted htr l (some y) h.2.2
    exact ⟨fun x hx => (List.mem_cons.1 hx).elim (fun e => e ▸ h.1) (h1 x), .cons (h3 y rfl) h2, fun p hp x hx => by
      cases hp
      exact (List.mem_cons.1 hx).elim (fun e => e ▸ h.2.1) (fun hm => htr _ _ _ h.2.1 (h3 y rfl x hm))⟩
theorem pair_lt {α : Type} {R : α → α → Prop} {l : List α} (h : l.Pairwise R) {i j : Nat} {x y : α} (hij : i < j) (hx : l[i]? = some x) (hy : l[j]? = some y) : R x y := by
  obtain ⟨h1, rfl⟩ := List.getElem?_eq_some_iff.1 hx
  obtain ⟨h2, rfl⟩ := List.getElem?_eq_some_iff.1 hy
  exact List.pairwise_iff_getElem.1 h i j h1 h2 hij
theorem takeWhile_get {α : Type} (p : α → Bool) : ∀ (l : List α) (i : Nat) (x : α), i < (l.takeWhile p).length → l[i]? = some x → p x = true
  | [], i, x, _, h => by simp at h
  | y :: l, i, x, hi, h => by
    rw [List.takeWhile_cons] at hi
    split at hi
    · rename_i hy
      match i, hi, h with
      | 0, _, h => simp at h; exact h ▸ hy
      | i + 1, hi, h => exact takeWhile_get p l i x (by simpa using hi) (by simpa using h)
    · simp at hi
theorem takeWhile_stop {α : Type} (p : α → Bool) : ∀ (l : List α) (x : α), l[(l.takeWhile p).length]? = some x → p x = false
  | [], x, h => by simp at h
  | y :: l, x, h => by
    rw [List.takeWhile_cons] at h
    split at h
    · exact takeWhile_stop p l x (by simpa using h)
    · rename_i hy; simp at h; rw [← h]; simpa using hy
theorem takeWhile_le {α : Type} (p : α → Bool) (l : List α) : (l.takeWhile p).length ≤ l.length := (List.takeWhile_sublist p).length_le
end Go.Proofs.YtbdjhecbingcjaaGreatDoor
