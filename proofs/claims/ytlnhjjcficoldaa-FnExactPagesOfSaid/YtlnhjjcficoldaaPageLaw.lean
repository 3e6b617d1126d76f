/- Lines in pages, in plain words: page k is the heading and the lines from k * m on, m of them at most. -/
import Derived.Test.YtlnhjjcficoldaaSortLaw
namespace Go.Proofs.Ytlnhjjcficoldaa
set_option linter.unusedVariables false
set_option linter.unusedSimpArgs false
set_option linter.unusedSectionVars false

def pageAt (hd : ByteArray) (m : Nat) (L : List ByteArray) (k : Nat) : List ByteArray := hd :: (L.drop (k * m)).take m
def pageCount (m n : Nat) : Nat := (n + m - 1) / m
def pagesB (hd : ByteArray) (m : Nat) (L : List ByteArray) : List (List ByteArray) := (List.range (pageCount m L.length)).map (pageAt hd m L)
theorem pageCount_zero {m : Nat} (hm : 0 < m) : pageCount m 0 = 0 := by
  unfold pageCount
  exact Nat.div_eq_of_lt (by omega)
theorem pagesB_nil (hd : ByteArray) {m : Nat} (hm : 0 < m) : pagesB hd m [] = [] := by
  unfold pagesB
  rw [List.length_nil, pageCount_zero hm]
  rfl
/-- n lines fill q pages and r lines more -/
theorem pageCount_full {m q : Nat} (hm : 0 < m) : pageCount m (q * m) = q := by
  unfold pageCount
  rw [Nat.add_sub_assoc hm, Nat.add_comm, Nat.add_mul_div_right _ _ hm, Nat.div_eq_of_lt (by omega)]
  omega
theorem pageCount_part {m q r : Nat} (hr : r < m) (h0 : 0 < r) : pageCount m (q * m + r) = q + 1 := by
  unfold pageCount
  have : q * m + r + m - 1 = (r - 1) + (q + 1) * m := by rw [Nat.add_mul]; omega
  rw [this, Nat.add_mul_div_right _ _ (by omega), Nat.div_eq_of_lt (by omega)]
  omega
theorem pageAt_before (hd x : ByteArray) {m k : Nat} {L : List ByteArray} (h : (k + 1) * m ≤ L.length) : pageAt hd m (L ++ [x]) k = pageAt hd m L k := by
  unfold pageAt
  rw [Nat.add_mul] at h
  rw [List.drop_append_of_le_length (by omega), List.take_append_of_le_length (by rw [List.length_drop]; omega)]
/-- a new page is begun -/
theorem pages_new (hd x : ByteArray) {m q : Nat} (hm : 0 < m) {L : List ByteArray} (hl : L.length = q * m) : pagesB hd m (L ++ [x]) = pagesB hd m L ++ [[hd, x]] := by
  unfold pagesB
  have h1 : pageCount m (L ++ [x]).length = q + 1 := by
    rw [List.length_append, List.length_singleton, hl]
    rcases Nat.eq_or_lt_of_le (show 1 ≤ m from hm) with e | e
    · rw [← e, Nat.mul_one]
      have := pageCount_full (q := q + 1) (m := 1) (by omega)
      rwa [Nat.mul_one] at this
    · exact pageCount_part e (by omega)
  rw [h1, hl, pageCount_full hm, List.range_succ, List.map_append, List.map_singleton]
  congr 1
  · refine List.map_congr_left fun k hk => ?_
    refine pageAt_before hd x ?_
    have := List.mem_range.1 hk
    rw [hl]
    exact Nat.mul_le_mul_right m (by omega)
  · unfold pageAt
    rw [← hl, List.drop_left' rfl, List.take_of_length_le (by simp; omega)]
/-- a line is added to the last page -/
theorem pages_more (hd x : ByteArray) {m q r : Nat} (hr : r < m) (h0 : 0 < r) {L : List ByteArray} (hl : L.length = q * m + r) :
    pagesB hd m L = (List.range q).map (pageAt hd m L) ++ [pageAt hd m L q] ∧ pagesB hd m (L ++ [x]) = (List.range q).map (pageAt hd m L) ++ [pageAt hd m L q ++ [x]] ∧ (pageAt hd m L q).length = r + 1 := by
  have hd1 : (L.drop (q * m)).length = r := by rw [List.length_drop]; omega
  have h1 : pageCount m (L ++ [x]).length = q + 1 := by
    rw [List.length_append, List.length_singleton, hl]
    rcases Nat.eq_or_lt_of_le (show r + 1 ≤ m by omega) with e | e
    · have := pageCount_full (q := q + 1) (m := m) (by omega)
      rw [Nat.add_mul, Nat.one_mul] at this
      rw [← this]
      congr 1
      omega
    · rw [Nat.add_assoc]; exact pageCount_part e (by omega)
  refine ⟨?_, ?_, ?_⟩
  · unfold pagesB
    rw [hl, pageCount_part hr h0, List.range_succ, List.map_append, List.map_singleton]
  · unfold pagesB
    rw [h1, List.range_succ, List.map_append, List.map_singleton]
    congr 1
    · refine List.map_congr_left fun k hk => ?_
      refine pageAt_before hd x ?_
      have := List.mem_range.1 hk
      rw [hl]
      exact Nat.le_trans (Nat.mul_le_mul_right m (show k + 1 ≤ q by omega)) (by omega)
    · unfold pageAt
      rw [List.drop_append_of_le_length (by omega), List.take_of_length_le (by rw [List.length_append, hd1]; simp; omega), List.take_of_length_le (by omega)]
      rfl
  · unfold pageAt
    rw [List.length_cons, List.take_of_length_le (by omega), hd1]
/-- the last page is full -/
theorem page_full (hd : ByteArray) {m q : Nat} {L : List ByteArray} (hl : L.length = (q + 1) * m) : (pageAt hd m L q).length = m + 1 := by
  unfold pageAt
  rw [Nat.add_mul, Nat.one_mul] at hl
  rw [List.length_cons, List.length_take, List.length_drop, hl]
  omega

end Go.Proofs.Ytlnhjjcficoldaa
