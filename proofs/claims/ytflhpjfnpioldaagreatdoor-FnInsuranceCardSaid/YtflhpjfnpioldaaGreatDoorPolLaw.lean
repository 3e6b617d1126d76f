/- Policies in plain words: what one pays, what a year costs, which one beats another. -/
import Derived.Test.YtflhpjfnpioldaaGreatDoorRows
import Derived.Test.YtflhpjfnpioldaaGreatDoorRPolicy
import Derived.Test.YtflhpjfnpioldaaGreatDoorValPolicy
import Derived.Test.YtflhpjfnpioldaaGreatDoorNameOne
namespace Go.Proofs.YtflhpjfnpioldaaGreatDoor
set_option linter.unusedVariables false
set_option linter.unusedSimpArgs false
set_option linter.unusedSectionVars false
open Go.RowKit

def paidP (x : DPolicy) (d : Int) : Int := min x.fMost (x.fShare * max 0 (d - x.fExcess) / 1000)
def lossP (x : DPolicy) : List Int → Int
  | [] => 0
  | d :: r => (d - paidP x d) + lossP x r
def costP (x : DPolicy) (ds : List Int) : Int := x.fPremium + lossP x ds
structure PB (x : DPolicy) : Prop where
  p0 : 0 ≤ x.fPremium
  p1 : x.fPremium ≤ 10000000
  s0 : 0 ≤ x.fShare
  s1 : x.fShare ≤ 1000
  e0 : 0 ≤ x.fExcess
  e1 : x.fExcess ≤ 10000000
  m0 : 0 ≤ x.fMost
  m1 : x.fMost ≤ 10000000
theorem PB.of {x : DPolicy} (h : okPolicy x = true) : PB x := by
  unfold okPolicy inB at h
  simp only [Bool.and_eq_true, decide_eq_true_eq] at h
  exact ⟨by omega, by omega, by omega, by omega, by omega, by omega, by omega, by omega⟩
theorem mul_le_both {a b c d : Int} (h1 : a ≤ c) (h2 : b ≤ d) (h3 : 0 ≤ b) (h4 : 0 ≤ c) : a * b ≤ c * d :=
  Int.le_trans (Int.mul_le_mul_of_nonneg_right h1 h3) (Int.mul_le_mul_of_nonneg_left h2 h4)
theorem PB.prod {x : DPolicy} (h : PB x) {t : Int} (h0 : 0 ≤ t) : 0 ≤ x.fShare * t ∧ x.fShare * t ≤ 1000 * t :=
  ⟨Int.mul_nonneg h.s0 h0, Int.mul_le_mul_of_nonneg_right h.s1 h0⟩
theorem PB.paid {x : DPolicy} (h : PB x) (d : Int) (hd : 0 ≤ d) : 0 ≤ paidP x d ∧ paidP x d ≤ x.fMost ∧ paidP x d ≤ d := by
  have h1 := h.prod (t := max 0 (d - x.fExcess)) (by omega)
  have h2 := h.m0
  have h3 := h.e0
  unfold paidP
  generalize x.fShare * max 0 (d - x.fExcess) = p at *
  omega
theorem PB.paid_mono {x : DPolicy} (h : PB x) {d d' : Int} (hd : d ≤ d') : paidP x d ≤ paidP x d' := by
  have h1 : x.fShare * max 0 (d - x.fExcess) ≤ x.fShare * max 0 (d' - x.fExcess) := Int.mul_le_mul_of_nonneg_left (by omega) h.s0
  unfold paidP
  generalize x.fShare * max 0 (d - x.fExcess) = p at *
  generalize x.fShare * max 0 (d' - x.fExcess) = q at *
  omega
theorem PB.paid_zero {x : DPolicy} (h : PB x) : paidP x 0 = 0 := by
  have := h.paid 0 (by omega)
  omega
theorem PB.cost_zero {x : DPolicy} (h : PB x) : costP x [0] = x.fPremium := by
  unfold costP lossP lossP
  rw [h.paid_zero]
  omega
theorem lossP_app (x : DPolicy) (a b : List Int) : lossP x (a ++ b) = lossP x a + lossP x b := by
  induction a with
  | nil => simp [lossP]
  | cons d r ih => simp only [List.cons_append, lossP, ih]; omega
theorem lossP_take {x : DPolicy} {ds : List Int} {k : Nat} {d : Int} (h : ds[k]? = some d) : lossP x (ds.take (k + 1)) = lossP x (ds.take k) + (d - paidP x d) := by
  rw [take_of_get h, lossP_app]; simp [lossP]
def Dams (ds : List Int) : Prop := (∀ d ∈ ds, 0 ≤ d ∧ d ≤ 10000000) ∧ ds.length ≤ 12
theorem PB.loss {x : DPolicy} (h : PB x) : ∀ {ds : List Int}, (∀ d ∈ ds, 0 ≤ d ∧ d ≤ 10000000) → 0 ≤ lossP x ds ∧ lossP x ds ≤ 10000000 * ds.length
  | [], _ => by simp [lossP]
  | d :: r, hd => by
    have h1 := h.loss (ds := r) fun y hy => hd y (List.mem_cons_of_mem _ hy)
    have h2 := hd d (List.mem_cons_self ..)
    have h3 := h.paid d h2.1
    simp only [lossP, List.length_cons]
    omega
theorem PB.cost {x : DPolicy} (h : PB x) {ds : List Int} (hd : Dams ds) : 0 ≤ costP x ds ∧ costP x ds ≤ 130000000 := by
  have h1 := h.loss hd.1
  have h2 := hd.2
  have h3 := h.p0
  have h4 := h.p1
  unfold costP
  omega
/-- one policy beats another -/
def beatsB (x y : DPolicy) : Bool :=
  (x.fPremium != y.fPremium || (x.fShare != y.fShare || (x.fExcess != y.fExcess || x.fMost != y.fMost))) &&
    (decide (x.fPremium ≤ y.fPremium) && (decide (x.fExcess ≤ y.fExcess) && (decide (y.fShare ≤ x.fShare) && decide (y.fMost ≤ x.fMost))))
theorem beats_all {x y : DPolicy} (h : beatsB x y = true) : x.fPremium ≤ y.fPremium ∧ x.fExcess ≤ y.fExcess ∧ y.fShare ≤ x.fShare ∧ y.fMost ≤ x.fMost ∧ ¬ (x.fPremium = y.fPremium ∧ x.fShare = y.fShare ∧ x.fExcess = y.fExcess ∧ x.fMost = y.fMost) := by
  unfold beatsB at h
  simp only [Bool.and_eq_true, Bool.or_eq_true, decide_eq_true_eq, bne_iff_ne, ne_eq] at h
  omega
theorem beats_not {x y : DPolicy} (h : beatsB x y = true) : beatsB y x = false := by
  rw [← Bool.not_eq_true]
  intro h'
  have h1 := beats_all h
  have h2 := beats_all h'
  omega
theorem beats_sum {x y : DPolicy} (h : beatsB x y = true) : x.fPremium + x.fExcess - x.fShare - x.fMost < y.fPremium + y.fExcess - y.fShare - y.fMost := by
  have := beats_all h
  omega
theorem beats_paid {x y : DPolicy} (hx : PB x) (hy : PB y) (h : beatsB x y = true) (d : Int) : paidP y d ≤ paidP x d := by
  have h0 := beats_all h
  have h1 : y.fShare * max 0 (d - y.fExcess) ≤ x.fShare * max 0 (d - x.fExcess) := mul_le_both h0.2.2.1 (by omega) (by omega) hx.s0
  unfold paidP
  generalize y.fShare * max 0 (d - y.fExcess) = p at *
  generalize x.fShare * max 0 (d - x.fExcess) = q at *
  omega
theorem beats_cost {x y : DPolicy} (hx : PB x) (hy : PB y) (h : beatsB x y = true) (ds : List Int) : costP x ds ≤ costP y ds := by
  have h0 := (beats_all h).1
  have h1 : lossP x ds ≤ lossP y ds := by
    induction ds with
    | nil => exact Int.le_refl _
    | cons d r ih =>
      have := beats_paid hx hy h d
      simp only [lossP]
      omega
  unfold costP
  omega
/-- the names of those that no one beats -/
def bestIds (l m : List DPolicy) : List ByteArray := (m.filter fun x => !(l.any fun y => beatsB y x)).map (·.fId)
theorem bestIds_app (l a b : List DPolicy) : bestIds l (a ++ b) = bestIds l a ++ bestIds l b := by unfold bestIds; rw [List.filter_append, List.map_append]
theorem exists_least {α : Type} (f : α → Int) : ∀ (l : List α), l ≠ [] → ∃ x ∈ l, ∀ y ∈ l, f x ≤ f y
  | [], h => absurd rfl h
  | [a], _ => ⟨a, List.mem_cons_self .., fun y hy => by rw [List.mem_singleton] at hy; subst hy; exact Int.le_refl _⟩
  | a :: b :: r, _ => by
    obtain ⟨x, hx, hl⟩ := exists_least f (b :: r) (by simp)
    by_cases h : f a ≤ f x
    · refine ⟨a, List.mem_cons_self .., fun y hy => ?_⟩
      rcases List.mem_cons.1 hy with rfl | hy
      · exact Int.le_refl _
      · exact Int.le_trans h (hl y hy)
    · refine ⟨x, List.mem_cons_of_mem _ hx, fun y hy => ?_⟩
      rcases List.mem_cons.1 hy with rfl | hy
      · omega
      · exact hl y hy
theorem bestIds_some {l : List DPolicy} (h : 0 < l.length) : 0 < (bestIds l l).length := by
  obtain ⟨x, hx, hl⟩ := exists_least (fun x : DPolicy => x.fPremium + x.fExcess - x.fShare - x.fMost) l (by intro e; subst e; simp at h)
  have hm : x.fId ∈ bestIds l l := by
    refine List.mem_map_of_mem (List.mem_filter.2 ⟨hx, ?_⟩)
    rw [Bool.not_eq_true', ← Bool.not_eq_true, List.any_eq_true]
    rintro ⟨y, hy, hb⟩
    have h1 := beats_sum hb
    have h2 := hl y hy
    omega
  exact List.length_pos_of_mem hm
theorem bestIds_le (l m : List DPolicy) : (bestIds l m).length ≤ m.length := by
  unfold bestIds
  rw [List.length_map]
  exact List.length_filter_le _ _
theorem same_text {a b : ByteArray} (h : (a.toList == b.toList) = true) : a = b := by
  have := eq_of_beq h
  rw [ByteArray.toList_eq, ByteArray.toList_eq] at this
  exact ba_ext this
theorem best_found {l : List DPolicy} (h : OkPolicys l) {x : DPolicy} (hx : x ∈ l) : (bestIds l l).any (fun s => s.toList == x.fId.toList) = !(l.any fun y => beatsB y x) := by
  rcases hb : l.any fun y => beatsB y x with _ | _
  · rw [Bool.not_false, List.any_eq_true]
    exact ⟨x.fId, List.mem_map_of_mem (List.mem_filter.2 ⟨hx, by rw [hb]; rfl⟩), beq_self_eq_true _⟩
  · rw [Bool.not_true, ← Bool.not_eq_true, List.any_eq_true]
    rintro ⟨s, hs, he⟩
    obtain ⟨y, hy, rfl⟩ := List.mem_map.1 hs
    obtain ⟨hy1, hy2⟩ := List.mem_filter.1 hy
    have := AscBy.one (f := fun x : DPolicy => x.fId) h.asc hy1 hx (same_text he)
    subst this
    rw [hb] at hy2
    cases hy2
end Go.Proofs.YtflhpjfnpioldaaGreatDoor
