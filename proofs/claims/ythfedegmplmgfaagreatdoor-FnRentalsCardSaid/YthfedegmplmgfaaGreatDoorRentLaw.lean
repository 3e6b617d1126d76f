/- Rentals in plain words: ends, fees, clashes, free days. -/
import Derived.Test.YthfedegmplmgfaaGreatDoorRows
import Derived.Test.YthfedegmplmgfaaGreatDoorRRental
import Derived.Test.YthfedegmplmgfaaGreatDoorValRental
import Derived.Test.YthfedegmplmgfaaGreatDoorNameOne
namespace Go.Proofs.YthfedegmplmgfaaGreatDoor
set_option linter.unusedVariables false
set_option linter.unusedSimpArgs false
set_option linter.unusedSectionVars false
open Go.RowKit

def endR (x : DRental) : Int := x.fDay + 30 * x.fMonths
def dueR (x : DRental) (d : Int) : Int := if d < x.fDay then 0 else x.fFee * min x.fMonths ((d - x.fDay) / 30 + 1)
/-- a rental that is small as a drawn one is -/
structure RB (x : DRental) : Prop where
  d0 : 0 ≤ x.fDay
  d1 : x.fDay ≤ 890
  m0 : 1 ≤ x.fMonths
  m1 : x.fMonths ≤ 12
  f0 : 0 ≤ x.fFee
  f1 : x.fFee ≤ 4900
theorem RB.end_ {x : DRental} (h : RB x) : x.fDay + 30 ≤ endR x ∧ endR x ≤ 1250 := by
  have := h.d0; have := h.d1; have := h.m0; have := h.m1
  unfold endR
  omega
theorem RB.due {x : DRental} (h : RB x) (d : Int) : 0 ≤ dueR x d ∧ dueR x d ≤ 58800 := by
  unfold dueR
  split
  · omega
  · have h1 : 0 ≤ min x.fMonths ((d - x.fDay) / 30 + 1) := by have := h.m0; omega
    have h2 : min x.fMonths ((d - x.fDay) / 30 + 1) ≤ 12 := by have := h.m1; omega
    exact ⟨Int.mul_nonneg h.f0 h1, Int.le_trans (Int.mul_le_mul_of_nonneg_right h.f1 h1) (Int.mul_le_mul_of_nonneg_left h2 (by omega))⟩
theorem RB.due_end {x : DRental} (h : RB x) : dueR x (x.fDay + 30 * x.fMonths) = x.fFee * x.fMonths := by
  have := h.m0
  unfold dueR
  rw [if_neg (by omega)]
  congr 1
  omega
theorem RB.due_first {x : DRental} (h : RB x) : dueR x x.fDay = x.fFee := by
  have := h.m0
  unfold dueR
  rw [if_neg (by omega)]
  rw [show min x.fMonths ((x.fDay - x.fDay) / 30 + 1) = 1 by omega, Int.mul_one]
theorem RB.due_none {x : DRental} (h : RB x) {d : Int} (hd : d < 0) : dueR x d = 0 := by
  have := h.d0
  unfold dueR
  rw [if_pos (by omega)]
def sumBy {α : Type} (f : α → Int) : List α → Int
  | [] => 0
  | x :: r => f x + sumBy f r
theorem sumBy_app {α : Type} (f : α → Int) (a b : List α) : sumBy f (a ++ b) = sumBy f a + sumBy f b := by
  induction a with
  | nil => simp [sumBy]
  | cons x r ih => simp only [List.cons_append, sumBy, ih]; omega
theorem sumBy_take {α : Type} {f : α → Int} {l : List α} {k : Nat} {x : α} (h : l[k]? = some x) : sumBy f (l.take (k + 1)) = sumBy f (l.take k) + f x := by
  rw [take_of_get h, sumBy_app]; simp [sumBy]
theorem sumBy_drop {α : Type} {f : α → Int} {l : List α} {k : Nat} {x : α} (h : l[k]? = some x) : sumBy f (l.drop k) = f x + sumBy f (l.drop (k + 1)) := by rw [drop_of_get h]; rfl
theorem sumBy_abs {α : Type} {f : α → Int} {M : Int} {l : List α} (h : ∀ x ∈ l, -M ≤ f x ∧ f x ≤ M) : -(M * l.length) ≤ sumBy f l ∧ sumBy f l ≤ M * l.length := by
  induction l with
  | nil => simp [sumBy]
  | cons x r ih =>
    have h1 := h x (List.mem_cons_self ..)
    have h2 := ih fun y hy => h y (List.mem_cons_of_mem _ hy)
    rw [sumBy, List.length_cons]
    push_cast
    rw [Int.mul_add, Int.mul_one]
    omega
/-- what falls due on some days -/
def incR (a b : Int) (x : DRental) : Int := dueR x b - dueR x (a - 1)
theorem RB.inc {x : DRental} (h : RB x) (a b : Int) : -58800 ≤ incR a b x ∧ incR a b x ≤ 58800 := by
  have := h.due b; have := h.due (a - 1)
  unfold incR
  omega
/-- a rental runs on a day -/
def actR (d : Int) (x : DRental) : Bool := decide (x.fDay ≤ d) && decide (d ≤ endR x - 1)
theorem actR_eq (d : Int) (x : DRental) : actR d x = (decide (x.fDay ≤ d) && decide (d < endR x)) := by
  unfold actR
  congr 1
  exact decide_eq_decide.2 ⟨fun h => by omega, fun h => by omega⟩
def actIds (d : Int) (l : List DRental) : List ByteArray := (l.filter (actR d)).map (·.fId)
theorem actIds_app (d : Int) (a b : List DRental) : actIds d (a ++ b) = actIds d a ++ actIds d b := by unfold actIds; rw [List.filter_append, List.map_append]
theorem same_text {a b : ByteArray} (h : (a.toList == b.toList) = true) : a = b := by
  have := eq_of_beq h
  rw [ByteArray.toList_eq, ByteArray.toList_eq] at this
  exact ba_ext this
theorem act_found {l : List DRental} (h : OkRentals l) (d : Int) {x : DRental} (hx : x ∈ l) : (actIds d l).any (fun s => s.toList == x.fId.toList) = actR d x := by
  rcases hb : actR d x with _ | _
  · rw [← Bool.not_eq_true, List.any_eq_true]
    rintro ⟨s, hs, he⟩
    obtain ⟨y, hy, rfl⟩ := List.mem_map.1 hs
    obtain ⟨hy1, hy2⟩ := List.mem_filter.1 hy
    have := AscBy.one (f := fun x : DRental => x.fId) h.asc hy1 hx (same_text he)
    subst this
    rw [hb] at hy2
    cases hy2
  · rw [List.any_eq_true]
    exact ⟨x.fId, List.mem_map_of_mem (List.mem_filter.2 ⟨hx, hb⟩), beq_self_eq_true _⟩
/-- two rentals clash -/
def clashR (x y : DRental) : Bool := (x.fItem.toList == y.fItem.toList) && decide (max x.fDay y.fDay < min (endR x) (endR y))
theorem clash_days {x y : DRental} (hx : x.fDay + 30 ≤ endR x) (hy : y.fDay + 30 ≤ endR y) : decide (max x.fDay y.fDay < min (endR x) (endR y)) = (decide (x.fDay < endR y) && decide (y.fDay < endR x)) := by
  rw [← Bool.decide_and]
  exact decide_eq_decide.2 ⟨fun h => by omega, fun h => by omega⟩
/-- the pairs of a row, up to the k-th; the pairs of all rows ahead of the i-th -/
def rowTo (l : List DRental) (x : DRental) (i k : Nat) : List (List Int) := ((List.range k).filter fun j => decide (i < j) && (match l[j]? with | some y => clashR x y | none => false)).map fun (j : Nat) => [(i : Int), (j : Int)]
theorem rowTo_succ {l : List DRental} {x y : DRental} {i k : Nat} (hy : l[k]? = some y) (hi : i < k) : rowTo l x i (k + 1) = rowTo l x i k ++ (if clashR x y then [[(i : Int), (k : Int)]] else []) := by
  unfold rowTo
  rw [List.range_succ, List.filter_append, List.map_append]
  congr 1
  rw [List.filter_cons, List.filter_nil, decide_eq_true hi, Bool.true_and, hy]
  simp only
  by_cases hc : clashR x y = true
  · rw [if_pos hc, if_pos hc]; rfl
  · rw [if_neg hc, if_neg hc]; rfl
theorem rowTo_low {l : List DRental} {x : DRental} {i : Nat} : ∀ k ≤ i + 1, rowTo l x i k = [] := fun k hk => by
  unfold rowTo
  rw [List.map_eq_nil_iff, List.filter_eq_nil_iff]
  intro j hj
  have := List.mem_range.1 hj
  rw [decide_eq_false (by omega)]
  simp
def rowOf (l : List DRental) (i : Nat) : List (List Int) := match l[i]? with | some x => rowTo l x i l.length | none => []
def allTo (l : List DRental) (i : Nat) : List (List Int) := (List.range i).flatMap (rowOf l)
theorem allTo_succ {l : List DRental} {x : DRental} {i : Nat} (hx : l[i]? = some x) : allTo l (i + 1) = allTo l i ++ rowTo l x i l.length := by
  unfold allTo
  rw [List.range_succ, List.flatMap_append, List.flatMap_singleton]
  unfold rowOf
  rw [hx]
theorem rowTo_pre {l : List DRental} {x : DRental} {i k n : Nat} (h : k ≤ n) : ∃ r, rowTo l x i n = rowTo l x i k ++ r := by
  unfold rowTo
  obtain ⟨m, rfl⟩ : ∃ m, n = k + m := ⟨n - k, by omega⟩
  rw [List.range_add, List.filter_append, List.map_append]
  exact ⟨_, rfl⟩
theorem allTo_pre {l : List DRental} {i n : Nat} (h : i ≤ n) : ∃ r, allTo l n = allTo l i ++ r := by
  unfold allTo
  obtain ⟨m, rfl⟩ : ∃ m, n = i + m := ⟨n - i, by omega⟩
  rw [List.range_add, List.flatMap_append]
  exact ⟨_, rfl⟩
/-- the next pair stands where it is looked for -/
theorem pair_at {l : List DRental} {x y : DRental} {i k : Nat} (hx : l[i]? = some x) (hy : l[k]? = some y) (hi : i < k) (hc : clashR x y = true) :
    (allTo l l.length)[(allTo l i ++ rowTo l x i k).length]? = some [(i : Int), (k : Int)] := by
  have hil := (List.getElem?_eq_some_iff.1 hx).1
  have hkl := (List.getElem?_eq_some_iff.1 hy).1
  obtain ⟨r, hr⟩ := allTo_pre (l := l) (i := i + 1) (n := l.length) (by omega)
  obtain ⟨r2, hr2⟩ := rowTo_pre (l := l) (x := x) (i := i) (k := k + 1) (n := l.length) (by omega)
  rw [hr, allTo_succ hx, hr2, rowTo_succ hy hi, if_pos hc]
  rw [show allTo l i ++ (rowTo l x i k ++ [[(i : Int), (k : Int)]] ++ r2) ++ r = (allTo l i ++ rowTo l x i k) ++ ([(i : Int), (k : Int)] :: (r2 ++ r)) by simp]
  rw [List.getElem?_append_right (Nat.le_refl _), Nat.sub_self]
  rfl
theorem rowTo_len {l : List DRental} {x : DRental} {i k : Nat} : (rowTo l x i k).length ≤ k := by
  unfold rowTo
  rw [List.length_map]
  exact Nat.le_trans (List.length_filter_le _ _) (by rw [List.length_range]; exact Nat.le_refl _)
theorem rowTo_two {l : List DRental} {x : DRental} {i k : Nat} {p : List Int} (h : p ∈ rowTo l x i k) : p.length = 2 := by
  unfold rowTo at h
  obtain ⟨j, _, rfl⟩ := List.mem_map.1 h
  rfl
theorem allTo_len {l : List DRental} : ∀ i : Nat, (allTo l i).length ≤ i * l.length
  | 0 => by simp [allTo]
  | i + 1 => by
    have ih := allTo_len (l := l) i
    unfold allTo at ih ⊢
    rw [List.range_succ, List.flatMap_append, List.flatMap_singleton, List.length_append, Nat.add_mul, Nat.one_mul]
    have : (rowOf l i).length ≤ l.length := by
      unfold rowOf
      split
      · exact rowTo_len
      · simp
    omega
/-- a day is free for a rental of some months -/
def openR (it : ByteArray) (m : Int) (d : Int) (x : DRental) : Bool := !(clashR x ⟨⟨#[]⟩, it, d, m, 0⟩)
end Go.Proofs.YthfedegmplmgfaaGreatDoor
