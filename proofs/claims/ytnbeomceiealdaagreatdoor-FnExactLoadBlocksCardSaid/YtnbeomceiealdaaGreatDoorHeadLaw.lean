/- The number of blocks that a first line tells; the blocks of a whole text. Plain laws. -/
import Derived.Test.YtnbeomceiealdaaGreatDoorRows
import Derived.Test.YtnbeomceiealdaaGreatDoorParseLaw
import Derived.Test.YtnbeomceiealdaaGreatDoorSNum
import Derived.Test.YtnbeomceiealdaaGreatDoorNums
namespace Go.Proofs.YtnbeomceiealdaaGreatDoor
set_option linter.unusedVariables false
set_option linter.unusedSimpArgs false
set_option linter.unusedSectionVars false
open Go.RowKit

def archL : List UInt8 := [97, 114, 99, 104, 105, 118, 101]
def headO (l : List UInt8) : Option Int := match cutsL 32 l with
  | [a, b] => if a = archL then (match numL b with | some n => if 0 ≤ n ∧ n ≤ 32 then some n else none | none => none) else none
  | _ => none
def headOk (l : List UInt8) : Bool := (headO l).isSome
theorem head_two {l a b : List UInt8} (h : cutsL 32 l = [a, b]) (ha : a = archL) : headO l = match numL b with | some n => if 0 ≤ n ∧ n ≤ 32 then some n else none | none => none := by
  unfold headO
  rw [h]
  simp only [ha, if_true]
theorem head_not {l : List UInt8} (h : ∀ a b, cutsL 32 l = [a, b] → a ≠ archL) : headO l = none := by
  unfold headO
  split
  · rename_i a b hc
    rw [if_neg (h a b hc)]
  · rfl
theorem num_no32 {l : List UInt8} {n : Int} (h : numL l = some n) : 32 ∉ l := fun hm => by
  rcases num_bytes h 32 hm with e | e
  · cases e
  · have : (32 : UInt8).toNat = 32 := rfl
    omega
/-- the program's reading of the first line -/
theorem head_pre {l : List UInt8} (h : Lib.hasPrefix l (archL ++ [32]) = true) : headO l = match numL (Lib.trimPrefix l (archL ++ [32])) with | some n => if 0 ≤ n ∧ n ≤ 32 then some n else none | none => none := by
  have hl : l = archL ++ 32 :: Lib.trimPrefix l (archL ++ [32]) := by
    unfold Lib.trimPrefix
    rw [if_pos h]
    unfold Lib.hasPrefix at h
    obtain ⟨t, ht⟩ := List.isPrefixOf_iff_prefix.1 h
    rw [← ht, List.drop_left' rfl]
    simp
  obtain ⟨t, ht⟩ : ∃ t, Lib.trimPrefix l (archL ++ [32]) = t := ⟨_, rfl⟩
  rw [ht] at hl ⊢
  have hc : cutsL 32 l = archL :: cutsL 32 t := by rw [hl]; exact cuts_app (by decide) t
  cases hn : numL t with
  | some n =>
    rw [cuts_none (num_no32 hn)] at hc
    rw [head_two hc rfl, hn]
  | none =>
    by_cases h2 : ∃ b, cutsL 32 t = [b]
    · obtain ⟨b, hb⟩ := h2
      have : b = t := by
        have := join_cuts 32 t
        rw [hb] at this
        simpa [joinC] using this
      subst this
      rw [hb] at hc
      rw [head_two hc rfl, hn]
    · refine head_not fun a b hab => ?_
      rw [hc] at hab
      simp only [List.cons.injEq] at hab
      exact absurd ⟨b, hab.2⟩ h2
theorem head_npre {l : List UInt8} (h : Lib.hasPrefix l (archL ++ [32]) = false) : headO l = none := by
  refine head_not fun a b hab ha => ?_
  have := join_cuts 32 l
  rw [hab, ha] at this
  have h2 : Lib.hasPrefix l (archL ++ [32]) = true := by
    unfold Lib.hasPrefix
    rw [List.isPrefixOf_iff_prefix]
    exact ⟨b, by rw [← this]; simp [joinC]⟩
  rw [h] at h2
  cases h2

def okAfter (r : List DBlock) (b : DBlock) : Bool := match r.getLast? with
  | none => true
  | some p => decide (cmpBl p b < 0)
def loadT (W : List ByteArray) : Nat → Sum (Int × Int) (List DBlock)
  | 0 => .inr []
  | k + 1 => match loadT W k with
    | .inl e => .inl e
    | .inr r => if codeP (bl (W.getD (k + 1) ⟨#[]⟩)) = 0 then (if okAfter r (blockP (bl (W.getD (k + 1) ⟨#[]⟩))) then .inr (r ++ [blockP (bl (W.getD (k + 1) ⟨#[]⟩))]) else .inl ((k : Int) + 2, 7)) else .inl ((k : Int) + 2, codeP (bl (W.getD (k + 1) ⟨#[]⟩)))
theorem getD_get {W : List ByteArray} {i : Nat} {x : ByteArray} (h : W[i]? = some x) : W.getD i ⟨#[]⟩ = x := by rw [List.getD_eq_getElem?_getD, h]; rfl
theorem load_step {W : List ByteArray} {k : Nat} {x : ByteArray} {r : List DBlock} (hx : W[k + 1]? = some x) (h : loadT W k = .inr r) (hc : codeP (bl x) = 0) (ho : okAfter r (blockP (bl x)) = true) : loadT W (k + 1) = .inr (r ++ [blockP (bl x)]) := by
  rw [loadT, h, getD_get hx]
  simp only [hc, ho, if_true]
theorem load_order {W : List ByteArray} {k : Nat} {x : ByteArray} {r : List DBlock} (hx : W[k + 1]? = some x) (h : loadT W k = .inr r) (hc : codeP (bl x) = 0) (ho : okAfter r (blockP (bl x)) = false) : loadT W (k + 1) = .inl ((k : Int) + 2, 7) := by
  rw [loadT, h, getD_get hx]
  simp only [hc, ho, if_true, Bool.false_eq_true, if_false]
theorem load_code {W : List ByteArray} {k : Nat} {x : ByteArray} {r : List DBlock} (hx : W[k + 1]? = some x) (h : loadT W k = .inr r) (hc : codeP (bl x) ≠ 0) : loadT W (k + 1) = .inl ((k : Int) + 2, codeP (bl x)) := by
  rw [loadT, h, getD_get hx]
  simp only [hc, if_false]
theorem load_mono {W : List ByteArray} {k : Nat} {e : Int × Int} (h : loadT W k = .inl e) : ∀ j, loadT W (k + j) = .inl e
  | 0 => h
  | j + 1 => by rw [← Nat.add_assoc, loadT, load_mono h j]
theorem load_at {W : List ByteArray} {k m : Nat} {e : Int × Int} (h : loadT W k = .inl e) (hk : k ≤ m) : loadT W m = .inl e := by
  have := load_mono h (m - k)
  rwa [show k + (m - k) = m by omega] at this
theorem load_len {W : List ByteArray} : ∀ {k : Nat} {r : List DBlock}, loadT W k = .inr r → r.length = k
  | 0, r, h => by rw [loadT] at h; cases h; rfl
  | k + 1, r, h => by
    rw [loadT] at h
    cases hk : loadT W k with
    | inl e => rw [hk] at h; cases h
    | inr q =>
      rw [hk] at h
      simp only at h
      split at h
      · split at h
        · cases h
          rw [List.length_append, load_len hk]
          rfl
        · cases h
      · cases h
structure LoadRes where
  list : List DBlock
  line : Int
  code : Int
def loadW (W : List ByteArray) (m : Nat) (done : Bool) : LoadRes := if done then (if m = 0 then ⟨[], 0, 11⟩ else match headO (bl (W.getD 0 ⟨#[]⟩)) with
  | none => ⟨[], 1, 9⟩
  | some n => match loadT W (m - 1) with
    | .inl e => ⟨[], e.1, e.2⟩
    | .inr r => if (r.length : Int) = n then ⟨r, 0, 0⟩ else ⟨[], 0, 11⟩) else ⟨[], 0, 11⟩
theorem loadW_open (W : List ByteArray) (m : Nat) : loadW W m false = ⟨[], 0, 11⟩ := rfl
theorem loadW_none (W : List ByteArray) (b : Bool) : loadW W 0 b = ⟨[], 0, 11⟩ := by cases b <;> rfl
theorem loadW_head {W : List ByteArray} {m : Nat} {x : ByteArray} (hm : 0 < m) (hx : W[0]? = some x) (h : headO (bl x) = none) : loadW W m true = ⟨[], 1, 9⟩ := by
  unfold loadW
  rw [if_pos rfl, if_neg (by omega), getD_get hx, h]
theorem loadW_err {W : List ByteArray} {m : Nat} {x : ByteArray} {n a c : Int} (hm : 0 < m) (hx : W[0]? = some x) (h : headO (bl x) = some n) (hl : loadT W (m - 1) = .inl (a, c)) : loadW W m true = ⟨[], a, c⟩ := by
  unfold loadW
  rw [if_pos rfl, if_neg (by omega), getD_get hx, h]
  simp only [hl]
theorem loadW_count {W : List ByteArray} {m : Nat} {x : ByteArray} {n : Int} {r : List DBlock} (hm : 0 < m) (hx : W[0]? = some x) (h : headO (bl x) = some n) (hl : loadT W (m - 1) = .inr r) (hn : ¬ (r.length : Int) = n) : loadW W m true = ⟨[], 0, 11⟩ := by
  unfold loadW
  rw [if_pos rfl, if_neg (by omega), getD_get hx, h]
  simp only [hl]
  rw [if_neg hn]
theorem loadW_ok {W : List ByteArray} {m : Nat} {x : ByteArray} {n : Int} {r : List DBlock} (hm : 0 < m) (hx : W[0]? = some x) (h : headO (bl x) = some n) (hl : loadT W (m - 1) = .inr r) (hn : (r.length : Int) = n) : loadW W m true = ⟨r, 0, 0⟩ := by
  unfold loadW
  rw [if_pos rfl, if_neg (by omega), getD_get hx, h]
  simp only [hl]
  rw [if_pos hn]
def loadF (s : ByteArray) : LoadRes := loadW (cutsB 10 s) ((cutsB 10 s).length - 1) (((cutsB 10 s).getD ((cutsB 10 s).length - 1) ⟨#[]⟩).toList == [])
theorem loadF_at {s : ByteArray} {m : Nat} {p : ByteArray} (hl : (cutsB 10 s).length = m + 1) (hp : (cutsB 10 s)[m]? = some p) : loadF s = loadW (cutsB 10 s) m (p.toList == []) := by
  unfold loadF
  rw [hl, Nat.add_sub_cancel, getD_get hp]
end Go.Proofs.YtnbeomceiealdaaGreatDoor
