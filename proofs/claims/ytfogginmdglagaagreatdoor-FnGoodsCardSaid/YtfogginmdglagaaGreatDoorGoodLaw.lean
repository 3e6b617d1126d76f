/- Goods in plain words: what is missing, what it costs, what is bought with money. -/
import Derived.Test.YtfogginmdglagaaGreatDoorRows
import Derived.Test.YtfogginmdglagaaGreatDoorRGood
import Derived.Test.YtfogginmdglagaaGreatDoorValGood
import Derived.Test.YtfogginmdglagaaGreatDoorNameOne
namespace Go.Proofs.YtfogginmdglagaaGreatDoor
set_option linter.unusedVariables false
set_option linter.unusedSimpArgs false
set_option linter.unusedSectionVars false
open Go.RowKit

def missG (x : DGood) : Int := max 0 (x.fLeast - x.fCount)
structure GB (x : DGood) : Prop where
  c0 : 0 ≤ x.fCount
  c1 : x.fCount ≤ 100000
  l0 : 0 ≤ x.fLeast
  l1 : x.fLeast ≤ 100000
  p0 : 0 ≤ x.fPrice
  p1 : x.fPrice ≤ 10000000
theorem GB.of {x : DGood} (h : okGood x = true) : GB x := by
  unfold okGood inB at h
  simp only [Bool.and_eq_true, decide_eq_true_eq] at h
  exact ⟨by omega, by omega, by omega, by omega, by omega, by omega⟩
theorem mul_rangeG {a b A B : Int} (a0 : 0 ≤ a) (a1 : a ≤ A) (b0 : 0 ≤ b) (b1 : b ≤ B) : 0 ≤ a * b ∧ a * b ≤ A * B :=
  ⟨Int.mul_nonneg a0 b0, Int.le_trans (Int.mul_le_mul_of_nonneg_right a1 b0) (Int.mul_le_mul_of_nonneg_left b1 (by omega))⟩
theorem GB.miss {x : DGood} (h : GB x) : 0 ≤ missG x ∧ missG x ≤ 100000 := by
  have := h.c0; have := h.l1
  unfold missG
  omega
theorem GB.worth {x : DGood} (h : GB x) : 0 ≤ x.fCount * x.fPrice ∧ x.fCount * x.fPrice ≤ 1000000000000 := mul_rangeG h.c0 h.c1 h.p0 h.p1
theorem GB.cost {x : DGood} (h : GB x) : 0 ≤ missG x * x.fPrice ∧ missG x * x.fPrice ≤ 1000000000000 := mul_rangeG h.miss.1 h.miss.2 h.p0 h.p1
def sumBy {α : Type} (f : α → Int) : List α → Int
  | [] => 0
  | x :: r => f x + sumBy f r
theorem sumBy_app {α : Type} (f : α → Int) (a b : List α) : sumBy f (a ++ b) = sumBy f a + sumBy f b := by
  induction a with
  | nil => simp [sumBy]
  | cons x r ih => simp only [List.cons_append, sumBy, ih]; omega
theorem sumBy_take {α : Type} {f : α → Int} {l : List α} {k : Nat} {x : α} (h : l[k]? = some x) : sumBy f (l.take (k + 1)) = sumBy f (l.take k) + f x := by
  rw [take_of_get h, sumBy_app]; simp [sumBy]
theorem sumBy_drop {α : Type} {f : α → Int} {l : List α} {k : Nat} {x : α} (h : l[k]? = some x) : sumBy f (l.drop k) = f x + sumBy f (l.drop (k + 1)) := by rw [drop_of_get h]; rfl
theorem sumBy_range {α : Type} {f : α → Int} {M : Int} {l : List α} (h : ∀ x ∈ l, 0 ≤ f x ∧ f x ≤ M) : 0 ≤ sumBy f l ∧ sumBy f l ≤ M * l.length := by
  induction l with
  | nil => simp [sumBy]
  | cons x r ih =>
    have h1 := h x (List.mem_cons_self ..)
    have h2 := ih fun y hy => h y (List.mem_cons_of_mem _ hy)
    rw [sumBy, List.length_cons]
    push_cast
    rw [Int.mul_add, Int.mul_one]
    omega
def worthG (x : DGood) : Int := x.fCount * x.fPrice
def costG (x : DGood) : Int := missG x * x.fPrice
/-- how many pieces of x money buys -/
def buy1 (money : Int) (x : DGood) : Int := if 0 < x.fPrice then min (missG x) (money / x.fPrice) else missG x
def buyL : Int → List DGood → List Int
  | _, [] => []
  | money, x :: r => buy1 money x :: buyL (money - buy1 money x * x.fPrice) r
def leftL : Int → List DGood → Int
  | money, [] => money
  | money, x :: r => leftL (money - buy1 money x * x.fPrice) r
theorem buyL_len : ∀ (l : List DGood) (m : Int), (buyL m l).length = l.length
  | [], _ => rfl
  | x :: r, m => by rw [buyL, List.length_cons, List.length_cons, buyL_len r]
theorem buyL_snoc (x : DGood) : ∀ (l : List DGood) (m : Int), buyL m (l ++ [x]) = buyL m l ++ [buy1 (leftL m l) x] ∧ leftL m (l ++ [x]) = leftL m l - buy1 (leftL m l) x * x.fPrice
  | [], m => ⟨rfl, rfl⟩
  | y :: r, m => by
    have ih := buyL_snoc x r (m - buy1 m y * y.fPrice)
    refine ⟨?_, ?_⟩
    · show buy1 m y :: buyL _ (r ++ [x]) = buy1 m y :: (buyL _ r ++ [_])
      rw [ih.1]
      rfl
    · show leftL _ (r ++ [x]) = _
      rw [ih.2]
      rfl
theorem buyL_take {l : List DGood} {k : Nat} {x : DGood} (h : l[k]? = some x) (m : Int) : buyL m (l.take (k + 1)) = buyL m (l.take k) ++ [buy1 (leftL m (l.take k)) x] ∧ leftL m (l.take (k + 1)) = leftL m (l.take k) - buy1 (leftL m (l.take k)) x * x.fPrice := by
  rw [take_of_get h]; exact buyL_snoc x _ m
theorem buyL_pre : ∀ (l r : List DGood) (m : Int), buyL m (l ++ r) = buyL m l ++ buyL (leftL m l) r
  | [], _, _ => rfl
  | x :: l, r, m => by
    show buy1 m x :: buyL _ (l ++ r) = buy1 m x :: (buyL _ l ++ buyL _ r)
    rw [buyL_pre l r]
    rfl
theorem buyL_get {l : List DGood} {k : Nat} {x : DGood} (h : l[k]? = some x) (m : Int) : (buyL m l)[k]? = some (buy1 (leftL m (l.take k)) x) := by
  have e : l = l.take (k + 1) ++ l.drop (k + 1) := (List.take_append_drop _ _).symm
  have hk := (List.getElem?_eq_some_iff.1 h).1
  have hl : (buyL m (l.take k)).length = k := by rw [buyL_len, List.length_take]; omega
  rw [e, buyL_pre, (buyL_take h m).1, List.append_assoc, List.getElem?_append_right (by omega), hl, Nat.sub_self]
  rw [List.take_append_drop]
  rfl
/-- what is bought of one kind -/
structure Buys (money : Int) (x : DGood) : Prop where
  n0 : 0 ≤ buy1 money x
  n1 : buy1 money x ≤ missG x
  c0 : 0 ≤ buy1 money x * x.fPrice
  c1 : buy1 money x * x.fPrice ≤ money
  full : buy1 money x < missG x → money - buy1 money x * x.fPrice < x.fPrice
theorem GB.buys {x : DGood} (h : GB x) {money : Int} (hm : 0 ≤ money) : Buys money x := by
  have hms := h.miss
  by_cases hp : 0 < x.fPrice
  · have e : buy1 money x = min (missG x) (money / x.fPrice) := by unfold buy1; rw [if_pos hp]
    have hd : 0 ≤ money / x.fPrice := Int.ediv_nonneg hm h.p0
    have hq : money / x.fPrice * x.fPrice ≤ money := Int.ediv_mul_le _ (by omega)
    have hlt : money < money / x.fPrice * x.fPrice + x.fPrice := Int.lt_ediv_add_one_mul_self money hp |> fun h => by rw [Int.add_mul, Int.one_mul] at h; exact h
    have hle : min (missG x) (money / x.fPrice) * x.fPrice ≤ money / x.fPrice * x.fPrice := Int.mul_le_mul_of_nonneg_right (by omega) h.p0
    have h0 : 0 ≤ min (missG x) (money / x.fPrice) * x.fPrice := Int.mul_nonneg (by omega) h.p0
    refine ⟨by rw [e]; omega, by rw [e]; omega, by rw [e]; exact h0, by rw [e]; omega, fun hf => ?_⟩
    rw [e] at hf ⊢
    have e2 : min (missG x) (money / x.fPrice) = money / x.fPrice := by omega
    rw [e2]
    omega
  · have e : buy1 money x = missG x := by unfold buy1; rw [if_neg hp]
    have e0 : x.fPrice = 0 := by have := h.p0; omega
    exact ⟨by rw [e]; omega, by rw [e]; omega, by rw [e0]; omega, by rw [e0]; omega, fun hf => by rw [e] at hf; omega⟩
theorem left_nonneg : ∀ {l : List DGood} {m : Int}, (∀ x ∈ l, GB x) → 0 ≤ m → 0 ≤ leftL m l ∧ leftL m l ≤ m
  | [], m, _, hm => ⟨hm, Int.le_refl _⟩
  | x :: r, m, h, hm => by
    have hb := (h x (List.mem_cons_self ..)).buys hm
    have := hb.c0
    have := hb.c1
    have ih := left_nonneg (l := r) (m := m - buy1 m x * x.fPrice) (fun y hy => h y (List.mem_cons_of_mem _ hy)) (by omega)
    show 0 ≤ leftL (m - buy1 m x * x.fPrice) r ∧ leftL (m - buy1 m x * x.fPrice) r ≤ m
    omega
/-- money enough buys all -/
theorem buy_all : ∀ {l : List DGood} {m : Int}, (∀ x ∈ l, GB x) → sumBy costG l ≤ m → buyL m l = l.map missG
  | [], m, _, _ => rfl
  | x :: r, m, h, hm => by
    have hx := h x (List.mem_cons_self ..)
    have hr : 0 ≤ sumBy costG r := by
      have h1 : ∀ y ∈ r, 0 ≤ costG y ∧ costG y ≤ 1000000000000 := fun y hy => (h y (List.mem_cons_of_mem _ hy)).cost
      exact (sumBy_range h1).1
    have hc : costG x ≤ m := by rw [sumBy] at hm; omega
    have e : buy1 m x = missG x := by
      unfold buy1
      split
      · rename_i hp
        have : missG x ≤ m / x.fPrice := (Int.le_ediv_iff_mul_le hp).2 hc
        omega
      · rfl
    rw [buyL, e, List.map_cons]
    congr 1
    exact buy_all (fun y hy => h y (List.mem_cons_of_mem _ hy)) (by rw [sumBy] at hm; show sumBy costG r ≤ m - costG x; omega)
def lowIds (l : List DGood) : List ByteArray := (l.filter fun x => decide (0 < missG x)).map (·.fId)
theorem lowIds_app (a b : List DGood) : lowIds (a ++ b) = lowIds a ++ lowIds b := by unfold lowIds; rw [List.filter_append, List.map_append]
theorem lowIds_le (l : List DGood) : (lowIds l).length ≤ l.length := by unfold lowIds; rw [List.length_map]; exact List.length_filter_le _ _
theorem same_text {a b : ByteArray} (h : (a.toList == b.toList) = true) : a = b := by
  have := eq_of_beq h
  rw [ByteArray.toList_eq, ByteArray.toList_eq] at this
  exact ba_ext this
theorem low_found {l : List DGood} (h : OkGoods l) {x : DGood} (hx : x ∈ l) : (lowIds l).any (fun s => s.toList == x.fId.toList) = decide (x.fCount < x.fLeast) := by
  have hm : (0 < missG x) = (x.fCount < x.fLeast) := by unfold missG; exact propext ⟨fun h => by omega, fun h => by omega⟩
  by_cases hb : 0 < missG x
  · rw [decide_eq_true (hm ▸ hb), List.any_eq_true]
    exact ⟨x.fId, List.mem_map_of_mem (List.mem_filter.2 ⟨hx, decide_eq_true hb⟩), beq_self_eq_true _⟩
  · rw [decide_eq_false (hm ▸ hb), ← Bool.not_eq_true, List.any_eq_true]
    rintro ⟨s, hs, he⟩
    obtain ⟨y, hy, rfl⟩ := List.mem_map.1 hs
    obtain ⟨hy1, hy2⟩ := List.mem_filter.1 hy
    have := AscBy.one (f := fun x : DGood => x.fId) h.asc hy1 hx (same_text he)
    subst this
    exact hb (of_decide_eq_true hy2)
end Go.Proofs.YtfogginmdglagaaGreatDoor
