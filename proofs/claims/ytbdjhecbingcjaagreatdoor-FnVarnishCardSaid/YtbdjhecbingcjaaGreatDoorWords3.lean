/- Plain law: a line of two names and three numbers, read by its pieces and by its words. -/
import Derived.Test.YtbdjhecbingcjaaGreatDoorRows
import Derived.Test.YtbdjhecbingcjaaGreatDoorWords
namespace Go.Proofs.YtbdjhecbingcjaaGreatDoor
set_option linter.unusedVariables false
set_option linter.unusedSimpArgs false
set_option linter.unusedSectionVars false
open Go.RowKit

theorem fromB_all : ∀ (l : List UInt8) (k : Nat), fromB k l = true → ∀ c ∈ l, smallB c = true ∨ digB c = true
  | [], _, _, c, hc => by cases hc
  | x :: r, k, h, c, hc => by
    rw [fromB, Bool.and_eq_true] at h
    rcases List.mem_cons.1 hc with rfl | hc
    · rcases Bool.or_eq_true _ _ ▸ h.1 with h1 | h1
      · exact .inl h1
      · rw [Bool.and_eq_true] at h1; exact .inr h1.2
    · exact fromB_all r _ h.2 c hc
theorem name_noblank {s : ByteArray} (h : nameB s = true) : (32 : UInt8) ∉ s.data.toList ∧ s.data.toList ≠ [] := by
  unfold nameB at h
  rw [Bool.and_eq_true, Bool.and_eq_true] at h
  refine ⟨fun hm => ?_, fun e => ?_⟩
  · rcases fromB_all _ _ h.1 32 hm with h1 | h1
    · exact absurd h1 (by decide)
    · exact absurd h1 (by decide)
  · have h2 := h.2.1
    rw [ByteArray.toList_eq, e] at h2
    cases h2
theorem list_ne {t : List UInt8} {ns : List Int} (h : listL t = some ns) : t ≠ [] := fun e => by
  subst e
  simp [listL, cutsL, numsOf, numIn, numL] at h

section
variable (ok : ByteArray → ByteArray → Int → Int → Int → Bool)
def o3 (s : ByteArray) : Option (ByteArray × ByteArray × Int × Int × Int) :=
  match cutsL 32 s.data.toList with
  | [a, b, t] => (match listL t with
    | some [n0, n1, n2] => if ok (ofL a) (ofL b) n0 n1 n2 then some (ofL a, ofL b, n0, n1, n2) else none
    | _ => none)
  | _ => none
def text3 (p q : ByteArray) (n0 n1 n2 : Int) : ByteArray := if ok p q n0 n1 n2 then p ++ ⟨#[32]⟩ ++ (q ++ ⟨#[32]⟩ ++ ofL (textL [n0, n1, n2])) else ⟨#[]⟩
end
section
variable {ok : ByteArray → ByteArray → Int → Int → Int → Bool}
theorem o3_cuts {s : ByteArray} {a b t : List UInt8} {n0 n1 n2 : Int} (h : cutsL 32 s.data.toList = [a, b, t]) (hl : listL t = some [n0, n1, n2]) : o3 ok s = if ok (ofL a) (ofL b) n0 n1 n2 then some (ofL a, ofL b, n0, n1, n2) else none := by
  unfold o3; rw [h]; simp only; rw [hl]
theorem o3_bad {s : ByteArray} {a b t : List UInt8} (h : cutsL 32 s.data.toList = [a, b, t]) (hl : ∀ ns, listL t = some ns → ns.length ≠ 3) : o3 ok s = none := by
  unfold o3; rw [h]; simp only
  split
  · rename_i n0 n1 n2 h1; exact absurd rfl (hl _ h1)
  · rfl
theorem o3_len {s : ByteArray} (h : (cutsL 32 s.data.toList).length ≠ 3) : o3 ok s = none := by
  unfold o3
  split
  · rename_i a b t h1; rw [h1] at h; exact absurd rfl h
  · rfl
theorem o3_some {s : ByteArray} {y : ByteArray × ByteArray × Int × Int × Int} (h : o3 ok s = some y) : ∃ a b t n0 n1 n2, cutsL 32 s.data.toList = [a, b, t] ∧ listL t = some [n0, n1, n2] ∧ ok (ofL a) (ofL b) n0 n1 n2 = true ∧ y = (ofL a, ofL b, n0, n1, n2) := by
  unfold o3 at h
  split at h
  · rename_i a b t h1
    split at h
    · rename_i n0 n1 n2 h2
      split at h
      · rename_i h3
        injection h with h
        exact ⟨a, b, t, n0, n1, n2, h1, h2, h3, h.symm⟩
      · cases h
    · cases h
  · cases h
theorem o3_words (hok : ∀ p q n0 n1 n2, ok p q n0 n1 n2 = true → nameB p = true ∧ nameB q = true) {s : ByteArray} {y : ByteArray × ByteArray × Int × Int × Int} (h : o3 ok s = some y) :
    ∃ p q t n0 n1 n2, wordsB s = [p, q, t] ∧ cutsL 32 s.data.toList = [p.data.toList, q.data.toList, t.data.toList] ∧ listL t.data.toList = some [n0, n1, n2] ∧ ok p q n0 n1 n2 = true ∧ y = (p, q, n0, n1, n2) := by
  obtain ⟨a, b, t, n0, n1, n2, h1, h2, h3, h4⟩ := o3_some h
  obtain ⟨ha, hb⟩ := hok _ _ _ _ _ h3
  have na := (name_noblank ha).2
  have nb := (name_noblank hb).2
  have nt := list_ne h2
  rw [ofL_data] at na nb
  refine ⟨ofL a, ofL b, ofL t, n0, n1, n2, ?_, by rw [ofL_data, ofL_data, ofL_data]; exact h1, by rw [ofL_data]; exact h2, h3, h4⟩
  unfold wordsB cutsB
  rw [h1]
  have e : ∀ l : List UInt8, l ≠ [] → (ofL l).data.toList.isEmpty = false := fun l hl => by rw [ofL_data]; cases l with
    | nil => exact absurd rfl hl
    | cons x y => rfl
  simp only [List.map_cons, List.map_nil, List.filter_cons, List.filter_nil, e a na, e b nb, e t nt, Bool.not_false, if_true]
theorem o3_wlen (hok : ∀ p q n0 n1 n2, ok p q n0 n1 n2 = true → nameB p = true ∧ nameB q = true) {s : ByteArray} (h : (wordsB s).length ≠ 3) : o3 ok s = none := by
  cases ho : o3 ok s with
  | none => rfl
  | some y =>
    obtain ⟨p, q, t, _, _, _, h1, _⟩ := o3_words hok ho
    rw [h1] at h
    exact absurd rfl h
theorem o3_wbad (hok : ∀ p q n0 n1 n2, ok p q n0 n1 n2 = true → nameB p = true ∧ nameB q = true) {s p q t : ByteArray} (hw : wordsB s = [p, q, t]) (hl : ∀ ns, listL t.data.toList = some ns → ns.length ≠ 3) : o3 ok s = none := by
  cases ho : o3 ok s with
  | none => rfl
  | some y =>
    obtain ⟨p', q', t', n0, n1, n2, h1, _, h2, _⟩ := o3_words hok ho
    rw [hw] at h1
    simp only [List.cons.injEq, and_true] at h1
    rw [← h1.2.2] at h2
    exact absurd rfl (hl _ h2)
theorem text3_data {p q : ByteArray} {n0 n1 n2 : Int} (h : ok p q n0 n1 n2 = true) : (text3 ok p q n0 n1 n2).data.toList = joinC 32 [p.data.toList, q.data.toList, textL [n0, n1, n2]] := by
  unfold text3
  rw [if_pos h]
  simp only [ba_app, ofL_data, joinC]
  simp
theorem o3_text (hok : ∀ p q n0 n1 n2, ok p q n0 n1 n2 = true → nameB p = true ∧ nameB q = true) {s p q t : ByteArray} {n0 n1 n2 : Int} (hw : wordsB s = [p, q, t]) (hl : listL t.data.toList = some [n0, n1, n2]) :
    o3 ok s = if (text3 ok p q n0 n1 n2).data.toList = s.data.toList then some (p, q, n0, n1, n2) else none := by
  have hr := listL_range hl
  split
  · rename_i he
    cases hk : ok p q n0 n1 n2 with
    | false =>
      unfold text3 at he
      rw [hk] at he
      have hs : s.data.toList = [] := he.symm
      unfold wordsB cutsB at hw
      rw [hs] at hw
      have hd : ([[]] : List (List UInt8)).map ofL = [⟨#[]⟩] := rfl
      rw [cutsL, hd, List.filter_cons, if_neg (by decide), List.filter_nil] at hw
      exact absurd hw (by simp)
    | true =>
      obtain ⟨hp, hq⟩ := hok _ _ _ _ _ hk
      rw [text3_data hk] at he
      have hc : cutsL 32 s.data.toList = [p.data.toList, q.data.toList, textL [n0, n1, n2]] := by
        rw [← he]
        refine cuts_join (by simp) fun x hx => ?_
        simp only [List.mem_cons, List.mem_nil_iff, or_false] at hx
        rcases hx with rfl | rfl | rfl
        · exact (name_noblank hp).1
        · exact (name_noblank hq).1
        · exact textL_noblank hr.1
      rw [o3_cuts hc (list_text hr.1 hr.2), ofL_self, ofL_self, if_pos hk]
  · rename_i he
    cases ho : o3 ok s with
    | none => rfl
    | some y =>
      obtain ⟨p', q', t', m0, m1, m2, h1, h2, h3, h4, _⟩ := o3_words hok ho
      rw [hw] at h1
      simp only [List.cons.injEq, and_true] at h1
      obtain ⟨rfl, rfl, rfl⟩ := h1
      rw [hl] at h3
      simp only [Option.some.injEq, List.cons.injEq, and_true] at h3
      obtain ⟨rfl, rfl, rfl⟩ := h3
      refine absurd ?_ he
      rw [text3_data h4, text_of_list hl, ← h2, join_cuts]
end
end Go.Proofs.YtbdjhecbingcjaaGreatDoor
