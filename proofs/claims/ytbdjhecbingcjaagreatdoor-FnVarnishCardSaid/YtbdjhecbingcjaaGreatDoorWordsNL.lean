/- Plain law: a line of a name, two numbers and a list of numbers, read by its pieces and by its words. -/
import Derived.Test.YtbdjhecbingcjaaGreatDoorRows
import Derived.Test.YtbdjhecbingcjaaGreatDoorWords3
namespace Go.Proofs.YtbdjhecbingcjaaGreatDoor
set_option linter.unusedVariables false
set_option linter.unusedSimpArgs false
set_option linter.unusedSectionVars false
open Go.RowKit

abbrev NL := ByteArray × Int × Int × List Int
section
variable (ok : ByteArray → Int → Int → List Int → Bool)
def oN (s : ByteArray) : Option NL :=
  match cutsL 32 s.data.toList with
  | [a, t, u] => (match listL t, listL u with
    | some [n0, n1], some ns => if ok (ofL a) n0 n1 ns then some (ofL a, n0, n1, ns) else none
    | _, _ => none)
  | _ => none
def textN (p : ByteArray) (n0 n1 : Int) (ns : List Int) : ByteArray := if ok p n0 n1 ns then p ++ ⟨#[32]⟩ ++ ofL (textL [n0, n1]) ++ ⟨#[32]⟩ ++ ofL (textL ns) else ⟨#[]⟩
end
section
variable {ok : ByteArray → Int → Int → List Int → Bool}
theorem oN_cuts {s : ByteArray} {a t u : List UInt8} {n0 n1 : Int} {ns : List Int} (h : cutsL 32 s.data.toList = [a, t, u]) (hl : listL t = some [n0, n1]) (hu : listL u = some ns) : oN ok s = if ok (ofL a) n0 n1 ns then some (ofL a, n0, n1, ns) else none := by
  unfold oN; rw [h]; simp only; rw [hl, hu]
theorem oN_bad1 {s : ByteArray} {a t u : List UInt8} (h : cutsL 32 s.data.toList = [a, t, u]) (hl : ∀ ns, listL t = some ns → ns.length ≠ 2) : oN ok s = none := by
  unfold oN; rw [h]; simp only
  split
  · rename_i n0 n1 ns h1 h2; exact absurd rfl (hl _ h1)
  · rfl
theorem oN_bad2 {s : ByteArray} {a t u : List UInt8} (h : cutsL 32 s.data.toList = [a, t, u]) (hu : listL u = none) : oN ok s = none := by
  unfold oN; rw [h]; simp only; rw [hu]
  split
  · rename_i h1; cases h1
  · rfl
theorem oN_len {s : ByteArray} (h : (cutsL 32 s.data.toList).length ≠ 3) : oN ok s = none := by
  unfold oN
  split
  · rename_i a b t h1; rw [h1] at h; exact absurd rfl h
  · rfl
theorem oN_some {s : ByteArray} {y : NL} (h : oN ok s = some y) : ∃ a t u n0 n1 ns, cutsL 32 s.data.toList = [a, t, u] ∧ listL t = some [n0, n1] ∧ listL u = some ns ∧ ok (ofL a) n0 n1 ns = true ∧ y = (ofL a, n0, n1, ns) := by
  unfold oN at h
  split at h
  · rename_i a t u h1
    split at h
    · rename_i n0 n1 ns h2 h3
      split at h
      · rename_i h4
        injection h with h
        exact ⟨a, t, u, n0, n1, ns, h1, h2, h3, h4, h.symm⟩
      · cases h
    · cases h
  · cases h
theorem oN_words (hok : ∀ p n0 n1 ns, ok p n0 n1 ns = true → nameB p = true) {s : ByteArray} {y : NL} (h : oN ok s = some y) :
    ∃ p t u n0 n1 ns, wordsB s = [p, t, u] ∧ cutsL 32 s.data.toList = [p.data.toList, t.data.toList, u.data.toList] ∧ listL t.data.toList = some [n0, n1] ∧ listL u.data.toList = some ns ∧ ok p n0 n1 ns = true ∧ y = (p, n0, n1, ns) := by
  obtain ⟨a, t, u, n0, n1, ns, h1, h2, h3, h4, h5⟩ := oN_some h
  have na := (name_noblank (hok _ _ _ _ h4)).2
  have nt := list_ne h2
  have nu := list_ne h3
  rw [ofL_data] at na
  refine ⟨ofL a, ofL t, ofL u, n0, n1, ns, ?_, by rw [ofL_data, ofL_data, ofL_data]; exact h1, by rw [ofL_data]; exact h2, by rw [ofL_data]; exact h3, h4, h5⟩
  unfold wordsB cutsB
  rw [h1]
  have e : ∀ l : List UInt8, l ≠ [] → (ofL l).data.toList.isEmpty = false := fun l hl => by rw [ofL_data]; cases l with
    | nil => exact absurd rfl hl
    | cons x y => rfl
  simp only [List.map_cons, List.map_nil, List.filter_cons, List.filter_nil, e a na, e t nt, e u nu, Bool.not_false, if_true]
theorem oN_wlen (hok : ∀ p n0 n1 ns, ok p n0 n1 ns = true → nameB p = true) {s : ByteArray} (h : (wordsB s).length ≠ 3) : oN ok s = none := by
  cases ho : oN ok s with
  | none => rfl
  | some y =>
    obtain ⟨p, t, u, _, _, _, h1, _⟩ := oN_words hok ho
    rw [h1] at h
    exact absurd rfl h
theorem oN_wbad1 (hok : ∀ p n0 n1 ns, ok p n0 n1 ns = true → nameB p = true) {s p t u : ByteArray} (hw : wordsB s = [p, t, u]) (hl : ∀ ns, listL t.data.toList = some ns → ns.length ≠ 2) : oN ok s = none := by
  cases ho : oN ok s with
  | none => rfl
  | some y =>
    obtain ⟨p', t', u', n0, n1, ns, h1, _, h2, _⟩ := oN_words hok ho
    rw [hw] at h1
    simp only [List.cons.injEq, and_true] at h1
    rw [← h1.2.1] at h2
    exact absurd rfl (hl _ h2)
theorem oN_wbad2 (hok : ∀ p n0 n1 ns, ok p n0 n1 ns = true → nameB p = true) {s p t u : ByteArray} (hw : wordsB s = [p, t, u]) (hu : listL u.data.toList = none) : oN ok s = none := by
  cases ho : oN ok s with
  | none => rfl
  | some y =>
    obtain ⟨p', t', u', n0, n1, ns, h1, _, _, h3, _⟩ := oN_words hok ho
    rw [hw] at h1
    simp only [List.cons.injEq, and_true] at h1
    rw [← h1.2.2, hu] at h3
    cases h3
theorem textN_data {p : ByteArray} {n0 n1 : Int} {ns : List Int} (h : ok p n0 n1 ns = true) : (textN ok p n0 n1 ns).data.toList = joinC 32 [p.data.toList, textL [n0, n1], textL ns] := by
  unfold textN
  rw [if_pos h]
  simp only [ba_app, ofL_data, joinC]
  simp
theorem oN_text (hok : ∀ p n0 n1 ns, ok p n0 n1 ns = true → nameB p = true) {s p t u : ByteArray} {n0 n1 : Int} {ns : List Int} (hw : wordsB s = [p, t, u]) (hl : listL t.data.toList = some [n0, n1]) (hu : listL u.data.toList = some ns) :
    oN ok s = if (textN ok p n0 n1 ns).data.toList = s.data.toList then some (p, n0, n1, ns) else none := by
  have hr := listL_range hl
  have hr2 := listL_range hu
  split
  · rename_i he
    cases hk : ok p n0 n1 ns with
    | false =>
      unfold textN at he
      rw [hk] at he
      have hs : s.data.toList = [] := he.symm
      unfold wordsB cutsB at hw
      rw [hs] at hw
      have hd : ([[]] : List (List UInt8)).map ofL = [⟨#[]⟩] := rfl
      rw [cutsL, hd, List.filter_cons, if_neg (by decide), List.filter_nil] at hw
      exact absurd hw (by simp)
    | true =>
      have hp := hok _ _ _ _ hk
      rw [textN_data hk] at he
      have hc : cutsL 32 s.data.toList = [p.data.toList, textL [n0, n1], textL ns] := by
        rw [← he]
        refine cuts_join (by simp) fun x hx => ?_
        simp only [List.mem_cons, List.mem_nil_iff, or_false] at hx
        rcases hx with rfl | rfl | rfl
        · exact (name_noblank hp).1
        · exact textL_noblank hr.1
        · exact textL_noblank hr2.1
      rw [oN_cuts hc (list_text hr.1 hr.2) (list_text hr2.1 hr2.2), ofL_self, if_pos hk]
  · rename_i he
    cases ho : oN ok s with
    | none => rfl
    | some y =>
      obtain ⟨p', t', u', m0, m1, ms, h1, h2, h3, h4, h5, _⟩ := oN_words hok ho
      rw [hw] at h1
      simp only [List.cons.injEq, and_true] at h1
      obtain ⟨rfl, rfl, rfl⟩ := h1
      rw [hl] at h3
      rw [hu] at h4
      simp only [Option.some.injEq, List.cons.injEq, and_true] at h3 h4
      obtain ⟨rfl, rfl⟩ := h3
      subst h4
      refine absurd ?_ he
      rw [textN_data h5, text_of_list hl, text_of_list hu, ← h2, join_cuts]
end
end Go.Proofs.YtbdjhecbingcjaaGreatDoor
