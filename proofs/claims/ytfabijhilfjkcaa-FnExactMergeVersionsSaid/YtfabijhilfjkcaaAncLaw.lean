/- Where a version comes from: plain laws for the walks. Nothing here speaks of the program. -/
import Derived.Test.YtfabijhilfjkcaaVerLaw
namespace Go.Proofs.Ytfabijhilfjkcaa
set_option linter.unusedVariables false
set_option linter.unusedSimpArgs false
set_option linter.unusedSectionVars false

def intsN (l : List Nat) : List Int := l.map fun (q : Nat) => (q : Int)
theorem intsN_len (l : List Nat) : (intsN l).length = l.length := by simp [intsN]
theorem intsN_app (a b : List Nat) : intsN (a ++ b) = intsN a ++ intsN b := by simp [intsN]
theorem intsN_one (p : Nat) : intsN [p] = [(p : Int)] := rfl
theorem intsN_cons (p : Nat) (l : List Nat) : intsN (p :: l) = (p : Int) :: intsN l := rfl
theorem intsN_mem {l : List Nat} {q : Nat} : (q : Int) ∈ intsN l ↔ q ∈ l := by
  unfold intsN
  rw [List.mem_map]
  exact ⟨fun ⟨x, hx, e⟩ => by have : x = q := by omega
                              subst this; exact hx, fun h => ⟨q, h, rfl⟩⟩
theorem intsN_get {l : List Nat} {k : Nat} {x : Int} (h : (intsN l)[k]? = some x) : ∃ q : Nat, l[k]? = some q ∧ x = q := by
  unfold intsN at h
  rw [List.getElem?_map] at h
  obtain ⟨q, hq, rfl⟩ := Option.map_eq_some_iff.1 h
  exact ⟨q, hq, rfl⟩
/-- the line from a parent on -/
def upV (l : List DVersion) (p : Nat) : List Nat := if p = 0 then [] else p :: aboveN (parV l) p
def restV (l : List DVersion) (p : Nat) : List Nat := if p = 0 then [] else aboveN (parV l) p
theorem up_zero (l : List DVersion) : upV l 0 = [] := rfl
theorem rest_zero (l : List DVersion) : restV l 0 = [] := rfl
theorem rest_pos (l : List DVersion) {q : Nat} (h : 1 ≤ q) : restV l q = aboveN (parV l) q := by unfold restV; rw [if_neg (by omega)]
theorem up_pos (l : List DVersion) {q : Nat} (h : 1 ≤ q) : upV l q = q :: aboveN (parV l) q := by unfold upV; rw [if_neg (by omega)]
theorem up_of {l : List DVersion} (h : OkHist l) {m : Nat} {x : DVersion} (hx : l[m]? = some x) : ∃ p : Nat, x.fParent = p ∧ p ≤ m ∧ aboveN (parV l) (m + 1) = upV l p := by
  have hp := h.parent hx
  refine ⟨x.fParent.toNat, by omega, by omega, ?_⟩
  by_cases h0 : x.fParent = 0
  · rw [anc_end (q := m + 1) (by omega) hx h0, h0]; rfl
  · obtain ⟨p, e, h1, h2, h3⟩ := anc_step h (q := m + 1) (by omega) hx h0
    rw [h3, e, Int.toNat_natCast, up_pos l h1]
theorem anc_few {l : List DVersion} (h : OkHist l) {a : Nat} (h1 : 1 ≤ a) (h2 : a ≤ l.length) : (aboveN (parV l) a).length < a := above_len h.par a h1 (by rw [parV_len]; exact h2)
theorem anc_mem {l : List DVersion} (h : OkHist l) {a : Nat} (h1 : 1 ≤ a) (h2 : a ≤ l.length) : ∀ q ∈ aboveN (parV l) a, 1 ≤ q ∧ q < a := above_mem h.par a h1 (by rw [parV_len]; exact h2)
/-- what both walks keep -/
structure Climb (l : List DVersion) (a : Nat) (o : List Nat) (r : List Nat) : Prop where
  eq : aboveN (parV l) a = o ++ r
theorem Climb.few {l : List DVersion} {a z : Nat} {o r : List Nat} (hc : Climb l a o r) (h : OkHist l) (h1 : 1 ≤ a) (h2 : a ≤ l.length) (hz : (intsN o).length = z) : z < 32 := by
  have e := anc_few h h1 h2
  have hf := h.few
  rw [hc.eq, List.length_append] at e
  rw [intsN_len] at hz
  omega
theorem Climb.push {l : List DVersion} {a p : Nat} {o r : List Nat} (hc : Climb l a o (p :: r)) : Climb l a (o ++ [p]) r := ⟨by rw [hc.eq]; simp⟩
theorem Climb.done {l : List DVersion} {a : Nat} {o : List Nat} (hc : Climb l a o []) : o = aboveN (parV l) a := by rw [hc.eq, List.append_nil]
def lineV (l : List DVersion) (a : Nat) : List Nat := a :: aboveN (parV l) a
theorem line_few {l : List DVersion} (h : OkHist l) {a : Nat} (h1 : 1 ≤ a) (h2 : a ≤ l.length) : (lineV l a).length ≤ 32 := by
  have := anc_few h h1 h2
  have := h.few
  unfold lineV
  rw [List.length_cons]
  omega
def NotIn (one two : List Nat) (k : Nat) : Prop := ∀ (j : Nat) p, j < k → one[j]? = some p → p ∉ two
theorem notIn_zero (one two : List Nat) : NotIn one two 0 := fun j p h => absurd h (Nat.not_lt_zero _)
theorem notIn_next {one two : List Nat} {k q : Nat} (h : NotIn one two k) (hq : one[k]? = some q) (hn : q ∉ two) : NotIn one two (k + 1) := fun j p hj hp => by
  rcases Nat.lt_or_ge j k with h1 | h1
  · exact h j p h1 hp
  · obtain rfl : j = k := by omega
    rw [hq] at hp
    cases hp
    exact hn
theorem notIn_all {one two : List Nat} (h : NotIn one two one.length) : firstIn one two = 0 := firstIn_none fun p hp => by
  obtain ⟨j, hj⟩ := List.mem_iff_getElem?.1 hp
  exact h j p (List.getElem?_eq_some_iff.1 hj).1 hj
theorem common_swap (l : List DVersion) (a b : Nat) : commonN (parV l) a b = firstIn (lineV l a) (aboveN (parV l) b ++ [b]) := by
  unfold commonN lineV
  exact firstIn_congr fun q => by simp [or_comm]
/-- a number among numbers -/
def NoHit (l : List Int) (x : Int) (k : Nat) : Prop := ∀ (j : Nat) y, j < k → l[j]? = some y → y ≠ x
theorem noHit_zero (l : List Int) (x : Int) : NoHit l x 0 := fun j y h => absurd h (Nat.not_lt_zero _)
theorem noHit_next {l : List Int} {x y : Int} {k : Nat} (h : NoHit l x k) (hy : l[k]? = some y) (hn : y ≠ x) : NoHit l x (k + 1) := fun j z hj hz => by
  rcases Nat.lt_or_ge j k with h1 | h1
  · exact h j z h1 hz
  · obtain rfl : j = k := by omega
    rw [hy] at hz
    cases hz
    exact hn
theorem noHit_all {l : List Int} {x : Int} {n : Nat} (h : NoHit l x n) (hl : l.length = n) : x ∉ l := fun hx => by
  obtain ⟨j, hj⟩ := List.mem_iff_getElem?.1 hx
  exact h j x (by have := (List.getElem?_eq_some_iff.1 hj).1; omega) hj rfl
end Go.Proofs.Ytfabijhilfjkcaa
