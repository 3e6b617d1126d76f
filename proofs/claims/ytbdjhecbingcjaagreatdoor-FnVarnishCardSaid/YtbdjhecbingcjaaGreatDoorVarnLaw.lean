/- Coats of varnish: colours over one another, gaps, mixtures: plain laws. Nothing here speaks of the program. -/
import Derived.Test.YtbdjhecbingcjaaGreatDoorRCoat
import Derived.Test.YtbdjhecbingcjaaGreatDoorCountLaw
namespace Go.Proofs.YtbdjhecbingcjaaGreatDoor
set_option linter.unusedVariables false
set_option linter.unusedSimpArgs false
set_option linter.unusedSectionVars false
open Go.RowKit

/-- the nearest quotient, for a from 0 on and b from 1 on -/
def dR (a b : Int) : Int := if b - a % b ≤ a % b then a / b + 1 else a / b
theorem dR_1000 (a : Int) : dR a 1000 = (2 * a + 1000) / 2000 := by unfold dR; split <;> omega
theorem dR_near (a : Int) : 2 * (1000 * dR a 1000 - a) ≤ 1000 ∧ -1000 ≤ 2 * (1000 * dR a 1000 - a) := by unfold dR; split <;> omega
theorem dR_low {a b m : Int} (hb : 0 < b) (h : m * b ≤ a) : m ≤ dR a b := by
  have h1 : m ≤ a / b := Int.le_ediv_of_mul_le hb h
  unfold dR
  split <;> omega
theorem dR_high {a b m : Int} (hb : 0 < b) (h : a ≤ m * b) : dR a b ≤ m := by
  have h0 := Int.mul_ediv_add_emod a b
  have h1 := Int.emod_nonneg a (show b ≠ 0 by omega)
  have h2 := Int.emod_lt_of_pos a hb
  have h3 : a / b ≤ m := by
    have := Int.ediv_le_ediv hb h
    rwa [Int.mul_ediv_cancel _ (show b ≠ 0 by omega)] at this
  unfold dR
  split
  · rename_i hc
    rcases Int.lt_or_eq_of_le h3 with h4 | h4
    · omega
    · rw [h4, Int.mul_comm] at h0
      omega
  · exact h3
def Col (c : List Int) : Prop := c.length = 3 ∧ ∀ n ∈ c, 0 ≤ n ∧ n ≤ 255
theorem Col.get {c : List Int} (h : Col c) {k : Nat} (hk : k < 3) : ∃ n, c[k]? = some n ∧ 0 ≤ n ∧ n ≤ 255 := by
  have hl : k < c.length := by rw [h.1]; exact hk
  exact ⟨c[k], List.getElem?_eq_getElem hl, h.2 _ (List.getElem_mem hl)⟩
theorem Col.of {c : List Int} {k : Nat} {n : Int} (h : Col c) (hn : c[k]? = some n) : 0 ≤ n ∧ n ≤ 255 := h.2 n (List.mem_of_getElem? hn)
theorem col_of {c : List Int} (h : colourB c = true) : Col c := by
  have h1 := colour_range h
  unfold colourB at h
  rw [Bool.and_eq_true, decide_eq_true_eq] at h
  exact ⟨h.2, h1.1⟩
theorem col_yes {c : List Int} (h : Col c) : colourB c = true := by
  unfold colourB
  rw [Bool.and_eq_true, decide_eq_true_eq, List.all_eq_true]
  exact ⟨fun n hn => inB_true (h.2 n hn).1 (h.2 n hn).2, h.1⟩
/-- a valid coat -/
structure OkC (x : DCoat) : Prop where
  name : nameB x.fId = true
  days : 0 ≤ x.fDays ∧ x.fDays ≤ 365
  cover : 0 ≤ x.fCover ∧ x.fCover ≤ 1000
  col : Col x.fColour
theorem OkC.yes {x : DCoat} (h : OkC x) : okCoat x = true := by
  unfold okCoat okCoat4
  rw [h.name, inB_true h.days.1 h.days.2, inB_true h.cover.1 h.cover.2, col_yes h.col]
  rfl
def mixN (x : DCoat) (n k : Int) : Int := n * (1000 - x.fCover) + k * x.fCover
theorem mix_range {x : DCoat} (h : OkC x) {n k m M : Int} (h1 : m ≤ n) (h2 : m ≤ k) (h3 : n ≤ M) (h4 : k ≤ M) : m * 1000 ≤ mixN x n k ∧ mixN x n k ≤ M * 1000 := by
  have hc := h.cover
  have a1 := Int.mul_le_mul_of_nonneg_right h1 (show 0 ≤ 1000 - x.fCover by omega)
  have a2 := Int.mul_le_mul_of_nonneg_right h2 hc.1
  have a3 := Int.mul_le_mul_of_nonneg_right h3 (show 0 ≤ 1000 - x.fCover by omega)
  have a4 := Int.mul_le_mul_of_nonneg_right h4 hc.1
  have e1 : m * 1000 = m * (1000 - x.fCover) + m * x.fCover := by rw [← Int.mul_add]; congr 1; omega
  have e2 : M * 1000 = M * (1000 - x.fCover) + M * x.fCover := by rw [← Int.mul_add]; congr 1; omega
  unfold mixN
  rw [e1, e2]
  omega
def overN (x : DCoat) (n k : Int) : Int := dR (mixN x n k) 1000
theorem over_range {x : DCoat} (h : OkC x) {n k : Int} : min n k ≤ overN x n k ∧ overN x n k ≤ max n k := by
  have h1 := mix_range h (n := n) (k := k) (m := min n k) (M := max n k) (Int.min_le_left ..) (Int.min_le_right ..) (Int.le_max_left ..) (Int.le_max_right ..)
  exact ⟨dR_low (by omega) h1.1, dR_high (by omega) h1.2⟩
theorem mix_big {x : DCoat} (h : OkC x) {n k : Int} (hn : 0 ≤ n ∧ n ≤ 255) (hk : 0 ≤ k ∧ k ≤ 255) : 0 ≤ mixN x n k ∧ mixN x n k ≤ 255000 := by
  have h1 := mix_range h hn.1 hk.1 hn.2 hk.2
  omega
theorem part_big {x : DCoat} (h : OkC x) {n k : Int} (hn : 0 ≤ n ∧ n ≤ 255) (hk : 0 ≤ k ∧ k ≤ 255) : (0 ≤ n * (1000 - x.fCover) ∧ n * (1000 - x.fCover) ≤ 255000) ∧ (0 ≤ k * x.fCover ∧ k * x.fCover ≤ 255000) := by
  have hc := h.cover
  have a1 := Int.mul_nonneg hn.1 (show 0 ≤ 1000 - x.fCover by omega)
  have a2 := Int.mul_nonneg hk.1 hc.1
  have a3 := Int.mul_le_mul hn.2 (show 1000 - x.fCover ≤ 1000 by omega) (by omega) (by omega)
  have a4 := Int.mul_le_mul hk.2 hc.2 hc.1 (by omega)
  omega
/-- the colour that a coat gives over another one -/
def overL (x : DCoat) (g : List Int) : List Int := List.zipWith (overN x) g x.fColour
theorem overL_get {x : DCoat} {g : List Int} {i : Nat} {n k : Int} (hn : g[i]? = some n) (hk : x.fColour[i]? = some k) : (overL x g)[i]? = some (overN x n k) := by
  unfold overL
  rw [List.getElem?_zipWith, hn, hk]
theorem overL_take {x : DCoat} {g : List Int} {i : Nat} {n k : Int} (hn : g[i]? = some n) (hk : x.fColour[i]? = some k) : (overL x g).take (i + 1) = (overL x g).take i ++ [overN x n k] := take_snoc (overL_get hn hk)
theorem overL_len {x : DCoat} {g : List Int} (h : OkC x) (hg : Col g) : (overL x g).length = 3 := by unfold overL; rw [List.length_zipWith, hg.1, h.col.1]; rfl
theorem overL_col {x : DCoat} {g : List Int} (h : OkC x) (hg : Col g) : Col (overL x g) := by
  refine ⟨overL_len h hg, fun v hv => ?_⟩
  obtain ⟨i, hi⟩ := List.mem_iff_getElem?.1 hv
  have hl := (List.getElem?_eq_some_iff.1 hi).1
  rw [overL_len h hg] at hl
  obtain ⟨n, hn, h1⟩ := hg.get hl
  obtain ⟨k, hk, h2⟩ := h.col.get hl
  rw [overL_get hn hk] at hi
  cases hi
  have h3 := mix_range h h1.1 h2.1 h1.2 h2.2
  exact ⟨dR_low (by omega) h3.1, dR_high (by omega) h3.2⟩
/-- valid coats: few, in order of their names -/
structure OkCs (l : List DCoat) : Prop where
  ok : ∀ x ∈ l, OkC x
  asc : ∀ (j : Nat) (p x : DCoat), l[j]? = some p → l[j + 1]? = some x → Op.bytesLess p.fId.toList x.fId.toList = true
  few : l.length ≤ 4
/-- an order of coats -/
def Ord5 (l : List DCoat) (o : List Int) : Prop := o.length ≤ 10 ∧ ∀ i ∈ o, ∃ (k : Nat) (x : DCoat), i = k ∧ l[k]? = some x
def coatAt (l : List DCoat) (i : Int) : DCoat := (l[i.toNat]?).getD ⟨⟨#[]⟩, 0, 0, []⟩
theorem coatAt_get {l : List DCoat} {k : Nat} {x : DCoat} (h : l[k]? = some x) : coatAt l k = x := by unfold coatAt; rw [Int.toNat_natCast, h]; rfl
def afterL (l : List DCoat) (o : List Int) (g : List Int) : List Int := o.foldl (fun c i => overL (coatAt l i) c) g
theorem afterL_take {l : List DCoat} {o g : List Int} {k : Nat} {i : Int} (h : o[k]? = some i) : afterL l (o.take (k + 1)) g = overL (coatAt l i) (afterL l (o.take k) g) := by
  unfold afterL
  rw [take_snoc h, List.foldl_append]
  rfl
theorem afterL_one (l : List DCoat) (i : Int) (g : List Int) : afterL l [i] g = overL (coatAt l i) g := rfl
theorem Ord5.take {l : List DCoat} {o : List Int} (h : Ord5 l o) (k : Nat) : Ord5 l (o.take k) := ⟨by rw [List.length_take]; have := h.1; omega, fun i hi => h.2 i (List.mem_of_mem_take hi)⟩
theorem Ord5.one {l : List DCoat} {k : Nat} {x : DCoat} (h : l[k]? = some x) : Ord5 l [(k : Int)] := ⟨by simp, fun i hi => ⟨k, x, by simpa using hi, h⟩⟩
theorem afterL_col {l : List DCoat} (hl : OkCs l) {g : List Int} (hg : Col g) : ∀ {o : List Int}, Ord5 l o → Col (afterL l o g) := by
  intro o
  induction o generalizing g with
  | nil => exact fun _ => hg
  | cons i r ih =>
    intro ho
    obtain ⟨k, x, rfl, hx⟩ := ho.2 i (by simp)
    have hx' := coatAt_get hx
    show Col (afterL l r (overL (coatAt l (k : Int)) g))
    rw [hx']
    exact ih (overL_col (hl.ok x (List.mem_of_getElem? hx)) hg) ⟨by have := ho.1; simp at this; omega, fun j hj => ho.2 j (by simp [hj])⟩
def daysL (l : List DCoat) : List Int → Int
  | [] => 0
  | i :: r => (coatAt l i).fDays + daysL l r
theorem daysL_snoc (l : List DCoat) (o : List Int) (i : Int) : daysL l (o ++ [i]) = daysL l o + (coatAt l i).fDays := by
  induction o with
  | nil => show (coatAt l i).fDays + 0 = 0 + _; omega
  | cons j r ih => show (coatAt l j).fDays + daysL l (r ++ [i]) = (coatAt l j).fDays + daysL l r + _; omega
theorem daysL_take {l : List DCoat} {o : List Int} {k : Nat} {i : Int} (h : o[k]? = some i) : daysL l (o.take (k + 1)) = daysL l (o.take k) + (coatAt l i).fDays := by rw [take_snoc h, daysL_snoc]
theorem daysL_range {l : List DCoat} (hl : OkCs l) : ∀ {o : List Int}, Ord5 l o → 0 ≤ daysL l o ∧ daysL l o ≤ 365 * o.length := by
  intro o
  induction o with
  | nil => exact fun _ => ⟨Int.le_refl _, by simp [daysL]⟩
  | cons i r ih =>
    intro ho
    obtain ⟨k, x, rfl, hx⟩ := ho.2 i (by simp)
    have h1 := ih ⟨by have := ho.1; simp at this; omega, fun j hj => ho.2 j (by simp [hj])⟩
    have h2 := (hl.ok x (List.mem_of_getElem? hx)).days
    have hx' := coatAt_get hx
    show 0 ≤ (coatAt l (k : Int)).fDays + daysL l r ∧ (coatAt l (k : Int)).fDays + daysL l r ≤ _
    rw [hx', List.length_cons]
    omega
/-- how far two colours lie apart -/
def absD (a b : Int) : Int := max (a - b) (b - a)
theorem absD_comm (a b : Int) : absD a b = absD b a := by unfold absD; omega
def gapL (a b : List Int) : Int := (List.zipWith absD a b).sum
theorem gapL_comm : ∀ (a b : List Int), gapL a b = gapL b a
  | [], [] => rfl
  | [], _ :: _ => rfl
  | _ :: _, [] => rfl
  | x :: a, y :: b => by
    have ih := gapL_comm a b
    unfold gapL at *
    simp only [List.zipWith_cons_cons, List.sum_cons]
    rw [ih, absD_comm]
def gapTo (a b : List Int) (k : Nat) : Int := ((List.zipWith absD a b).take k).sum
theorem gapTo_zero (a b : List Int) : gapTo a b 0 = 0 := rfl
theorem gapTo_next {a b : List Int} {k : Nat} {x y : Int} (hx : a[k]? = some x) (hy : b[k]? = some y) : gapTo a b (k + 1) = gapTo a b k + absD x y := by
  unfold gapTo
  rw [take_snoc (x := absD x y) (by rw [List.getElem?_zipWith, hx, hy]), List.sum_append]
  simp
theorem gapTo_all {a b : List Int} {n : Nat} (h : a.length ≤ n) : gapTo a b n = gapL a b := by
  unfold gapTo gapL
  rw [List.take_of_length_le (by rw [List.length_zipWith]; omega)]
theorem gapTo_range {a b : List Int} (ha : Col a) (hb : Col b) : ∀ {k : Nat}, k ≤ 3 → 0 ≤ gapTo a b k ∧ gapTo a b k ≤ 255 * k
  | 0, _ => ⟨Int.le_refl _, Int.le_refl _⟩
  | k + 1, hk => by
    have ih := gapTo_range ha hb (k := k) (by omega)
    obtain ⟨x, hx, h1⟩ := ha.get (k := k) (by omega)
    obtain ⟨y, hy, h2⟩ := hb.get (k := k) (by omega)
    rw [gapTo_next hx hy]
    unfold absD
    omega
theorem gapL_range {a b : List Int} (ha : Col a) (hb : Col b) : 0 ≤ gapL a b ∧ gapL a b ≤ 765 := by
  have := gapTo_range ha hb (k := 3) (by omega)
  rwa [gapTo_all (by rw [ha.1]; exact Nat.le_refl _)] at this
/-- a coat laid some times -/
def iterO (x : DCoat) (g : List Int) : Nat → List Int
  | 0 => g
  | n + 1 => overL x (iterO x g n)
theorem iter_col {x : DCoat} {g : List Int} (h : OkC x) (hg : Col g) : ∀ n, Col (iterO x g n)
  | 0 => hg
  | n + 1 => overL_col h (iter_col h hg n)
/-- what the search for the fewest coats answers -/
structure FewR (x : DCoat) (g goal : List Int) (want v code : Int) : Prop where
  cases : (code = 0 ∧ ∃ n : Nat, v = n ∧ n ≤ 10 ∧ gapL (iterO x g n) goal ≤ want ∧ ∀ m, m < n → want < gapL (iterO x g m) goal) ∨ (code = 3 ∧ v = 0 ∧ ∀ m, m ≤ 10 → want < gapL (iterO x g m) goal)
def Far (x : DCoat) (g goal : List Int) (want : Int) (n : Nat) : Prop := ∀ m, m < n → want < gapL (iterO x g m) goal
theorem far_zero (x : DCoat) (g goal : List Int) (want : Int) : Far x g goal want 0 := fun m h => absurd h (Nat.not_lt_zero _)
theorem far_next {x : DCoat} {g goal : List Int} {want : Int} {n : Nat} (h : Far x g goal want n) (hn : want < gapL (iterO x g n) goal) : Far x g goal want (n + 1) := fun m hm => by
  rcases Nat.lt_or_ge m n with h1 | h1
  · exact h m h1
  · obtain rfl : m = n := by omega
    exact hn
/-- parts of all coats -/
def partV (p : List Int) (l : List DCoat) (j : Nat) (n : Nat) : Int := (List.zipWith (fun q (x : DCoat) => q * ((x.fColour[j]?).getD 0)) (p.take n) (l.take n)).sum
theorem zip_take_snoc {α β γ : Type} {f : α → β → γ} {a : List α} {b : List β} {k : Nat} {x : α} {y : β} (hx : a[k]? = some x) (hy : b[k]? = some y) : List.zipWith f (a.take (k + 1)) (b.take (k + 1)) = List.zipWith f (a.take k) (b.take k) ++ [f x y] := by
  have h1 := (List.getElem?_eq_some_iff.1 hx).1
  have h2 := (List.getElem?_eq_some_iff.1 hy).1
  rw [take_snoc hx, take_snoc hy, List.zipWith_append (by rw [List.length_take, List.length_take]; omega)]
  rfl
theorem partV_next {p : List Int} {l : List DCoat} {j k : Nat} {q : Int} {x : DCoat} {c : Int} (hq : p[k]? = some q) (hx : l[k]? = some x) (hc : x.fColour[j]? = some c) : partV p l j (k + 1) = partV p l j k + q * c := by
  unfold partV
  rw [zip_take_snoc hq hx, List.sum_append, hc]
  simp
theorem partV_zero (p : List Int) (l : List DCoat) (j : Nat) : partV p l j 0 = 0 := rfl
/-- the parts' sum lies between the bounds of the colours -/
theorem partV_between {p : List Int} {l : List DCoat} {j : Nat} {low high : Int} (hp : ∀ q ∈ p, 0 ≤ q) (hl : p.length = l.length) (hc : ∀ x ∈ l, ∃ c, x.fColour[j]? = some c ∧ low ≤ c ∧ c ≤ high) : ∀ n, n ≤ l.length → low * (p.take n).sum ≤ partV p l j n ∧ partV p l j n ≤ high * (p.take n).sum
  | 0, _ => by simp [partV]
  | n + 1, hn => by
    have ih := partV_between hp hl hc n (by omega)
    obtain ⟨q, hq⟩ : ∃ q, p[n]? = some q := ⟨_, List.getElem?_eq_getElem (by omega)⟩
    obtain ⟨x, hx⟩ : ∃ x, l[n]? = some x := ⟨_, List.getElem?_eq_getElem (by omega)⟩
    obtain ⟨c, h0, h1, h2⟩ := hc x (List.mem_of_getElem? hx)
    have hq0 := hp q (List.mem_of_getElem? hq)
    rw [partV_next hq hx h0, take_snoc hq, List.sum_append]
    simp only [List.sum_cons, List.sum_nil, Int.add_zero]
    rw [Int.mul_add, Int.mul_add]
    have a1 := Int.mul_le_mul_of_nonneg_left h1 hq0
    have a2 := Int.mul_le_mul_of_nonneg_left h2 hq0
    rw [Int.mul_comm q low] at a1
    rw [Int.mul_comm q high] at a2
    omega
theorem sum_take_next {p : List Int} {k : Nat} {q : Int} (h : p[k]? = some q) : (p.take (k + 1)).sum = (p.take k).sum + q := by
  rw [take_snoc h, List.sum_append]
  simp
theorem sum_range_of {p : List Int} {M : Int} (h : ∀ q ∈ p, 0 ≤ q ∧ q ≤ M) (k : Nat) (hk : k ≤ p.length) : 0 ≤ (p.take k).sum ∧ (p.take k).sum ≤ M * k := by
  induction k with
  | zero => simp
  | succ k ih =>
    obtain ⟨q, hq⟩ : ∃ q, p[k]? = some q := ⟨_, List.getElem?_eq_getElem (by omega)⟩
    have h1 := ih (by omega)
    have h2 := h q (List.mem_of_getElem? hq)
    rw [sum_take_next hq, show M * ((k + 1 : Nat) : Int) = M * k + M by rw [Int.natCast_add, Int.mul_add]; simp]
    omega
/-- a coat's text is read back -/
theorem coat_back {x : DCoat} (h : OkC x) : coatO (coatText x) = some x := by
  have hk : okCoat4 x.fId x.fDays x.fCover x.fColour = true := h.yes
  have r1 : ∀ n ∈ [x.fDays, x.fCover], -1000000000000 ≤ n ∧ n ≤ 1000000000000 := by
    intro n hn
    have := h.days
    have := h.cover
    simp only [List.mem_cons, List.not_mem_nil, or_false] at hn
    rcases hn with rfl | rfl <;> omega
  have r2 : ∀ n ∈ x.fColour, -1000000000000 ≤ n ∧ n ≤ 1000000000000 := fun n hn => by have := h.col.2 n hn; omega
  have l2 : x.fColour.length ≤ 64 := by rw [h.col.1]; omega
  have hc : cutsL 32 (coatText x).data.toList = [x.fId.data.toList, textL [x.fDays, x.fCover], textL x.fColour] := by
    unfold coatText
    rw [textN_data hk]
    refine cuts_join (by simp) fun y hy => ?_
    simp only [List.mem_cons, List.mem_nil_iff, or_false] at hy
    rcases hy with rfl | rfl | rfl
    · exact (name_noblank h.name).1
    · exact textL_noblank r1
    · exact textL_noblank r2
  have ho := oN_cuts (ok := okCoat4) hc (list_text r1 (by simp)) (list_text r2 l2)
  rw [ofL_self, if_pos hk] at ho
  exact coatO_is ho
theorem coat_text_le {x : DCoat} (h : OkC x) : (coatText x).size ≤ 1048576 := by
  have hk : okCoat4 x.fId x.fDays x.fCover x.fColour = true := h.yes
  have r1 : ∀ n ∈ [x.fDays, x.fCover], -1000000000000 ≤ n ∧ n ≤ 1000000000000 := by
    intro n hn
    have := h.days
    have := h.cover
    simp only [List.mem_cons, List.not_mem_nil, or_false] at hn
    rcases hn with rfl | rfl <;> omega
  have r2 : ∀ n ∈ x.fColour, -1000000000000 ≤ n ∧ n ≤ 1000000000000 := fun n hn => by have := h.col.2 n hn; omega
  have s1 := nl_name_size h.name
  have t1 := textL_len r1 (by simp)
  have t2 := textL_len r2 (by rw [h.col.1]; omega)
  have e : coatText x = x.fId ++ ⟨#[32]⟩ ++ ofL (textL [x.fDays, x.fCover]) ++ ⟨#[32]⟩ ++ ofL (textL x.fColour) := by unfold coatText textN; exact if_pos hk
  rw [e, ba_app_size, ba_app_size, ba_app_size, ba_app_size, ofL_size, ofL_size]
  show _ + 1 + _ + 1 + _ ≤ _
  omega
end Go.Proofs.YtbdjhecbingcjaaGreatDoor
