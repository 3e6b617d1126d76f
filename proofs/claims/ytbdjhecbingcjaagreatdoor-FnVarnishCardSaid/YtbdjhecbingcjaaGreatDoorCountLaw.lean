/- How often each text comes in, in plain words. -/
import Derived.Test.YtbdjhecbingcjaaGreatDoorSortLaw
import Derived.Lib.SlicesCompact
import Derived.Lib.SlicesS
namespace Go.Proofs.YtbdjhecbingcjaaGreatDoor
set_option linter.unusedVariables false
set_option linter.unusedSimpArgs false
set_option linter.unusedSectionVars false

def uniqTo (S : List ByteArray) : Nat → List ByteArray
  | 0 => []
  | k + 1 => match S[k]? with
    | none => uniqTo S k
    | some s => if k ≠ 0 ∧ S[k - 1]? = some s then uniqTo S k else uniqTo S k ++ [s]
def uniqB (S : List ByteArray) : List ByteArray := uniqTo S S.length
def cnt (l : List ByteArray) (u : ByteArray) : Nat := l.countP fun x => decide (x = u)
def cntL (U l : List ByteArray) : List Int := U.map fun u => ((cnt l u : Nat) : Int)

theorem uniqTo_first {S : List ByteArray} {s : ByteArray} (h : S[0]? = some s) : uniqTo S 1 = uniqTo S 0 ++ [s] := by
  simp [uniqTo, h]
theorem uniqTo_new {S : List ByteArray} {k : Nat} {p s : ByteArray} (h : S[k + 1]? = some s) (hp : S[k]? = some p) (hne : ¬ s = p) : uniqTo S (k + 2) = uniqTo S (k + 1) ++ [s] := by
  rw [uniqTo, h]
  simp only [Nat.add_sub_cancel, hp, Option.some.injEq]
  rw [if_neg fun e => hne e.2.symm]
theorem uniqTo_same {S : List ByteArray} {k : Nat} {p s : ByteArray} (h : S[k + 1]? = some s) (hp : S[k]? = some p) (he : s = p) : uniqTo S (k + 2) = uniqTo S (k + 1) := by
  rw [uniqTo, h]
  simp only [Nat.add_sub_cancel, hp, Option.some.injEq]
  rw [if_pos ⟨by omega, he.symm⟩]
theorem take_snoc {α : Type} {l : List α} {k : Nat} {x : α} (h : l[k]? = some x) : l.take (k + 1) = l.take k ++ [x] := by
  rw [List.take_add_one, h]; rfl
theorem uniq_mem {S : List ByteArray} : ∀ {k : Nat}, k ≤ S.length → ∀ x, x ∈ uniqTo S k ↔ x ∈ S.take k
  | 0, _, x => by simp [uniqTo]
  | k + 1, hk, x => by
    obtain ⟨s, hs⟩ : ∃ s, S[k]? = some s := ⟨_, List.getElem?_eq_getElem (by omega)⟩
    have ih := uniq_mem (S := S) (k := k) (by omega) x
    rw [take_snoc hs, uniqTo, hs]
    simp only
    split
    · rename_i h
      rw [ih, List.mem_append, List.mem_singleton]
      refine ⟨.inl, fun h' => h'.elim id fun e => ?_⟩
      subst e
      exact List.mem_of_getElem? (i := k - 1) (by rw [List.getElem?_take_of_lt (by omega)]; exact h.2)
    · rw [List.mem_append, List.mem_append, ih]
theorem uniq_last {S : List ByteArray} : ∀ {k : Nat}, k < S.length → (uniqTo S (k + 1))[(uniqTo S (k + 1)).length - 1]? = S[k]? ∧ 0 < (uniqTo S (k + 1)).length
  | 0, hk => by
    obtain ⟨s, hs⟩ : ∃ s, S[0]? = some s := ⟨_, List.getElem?_eq_getElem (by omega)⟩
    rw [uniqTo_first hs, hs]; simp [uniqTo]
  | k + 1, hk => by
    obtain ⟨s, hs⟩ : ∃ s, S[k + 1]? = some s := ⟨_, List.getElem?_eq_getElem (by omega)⟩
    obtain ⟨p, hp⟩ : ∃ p, S[k]? = some p := ⟨_, List.getElem?_eq_getElem (by omega)⟩
    by_cases he : s = p
    · rw [uniqTo_same hs hp he, hs, he, ← hp]; exact uniq_last (by omega)
    · rw [uniqTo_new hs hp he, hs]; simp
theorem leS_antisymm {a b : ByteArray} (h : leS a b) (h' : leS b a) : a = b := by
  have := List.le_antisymm h h'
  rw [← ofL_self a, this, ofL_self]
theorem sorted_fresh {S : List ByteArray} (hS : S.Pairwise leS) {k : Nat} {p s : ByteArray} (h : S[k + 1]? = some s) (hp : S[k]? = some p) (hne : ¬ s = p) : s ∉ S.take (k + 1) := by
  intro hm
  obtain ⟨i, hi⟩ := List.mem_iff_getElem?.1 hm
  have hik : i < k + 1 := by have := (List.getElem?_eq_some_iff.1 hi).1; rw [List.length_take] at this; omega
  rw [List.getElem?_take_of_lt hik] at hi
  obtain ⟨hi1, hi2⟩ := List.getElem?_eq_some_iff.1 hi
  obtain ⟨hk1, hk2⟩ := List.getElem?_eq_some_iff.1 hp
  obtain ⟨hs1, hs2⟩ := List.getElem?_eq_some_iff.1 h
  have h2 : leS p s := by have := List.pairwise_iff_getElem.1 hS k (k + 1) hk1 hs1 (by omega); rwa [hk2, hs2] at this
  by_cases e : i = k
  · subst e; rw [hp] at hi; exact hne (Option.some.inj hi).symm
  · have h1 : leS s p := by have := List.pairwise_iff_getElem.1 hS i k hi1 hk1 (by omega); rwa [hi2, hk2] at this
    exact hne (leS_antisymm h1 h2)
theorem uniq_nodup {S : List ByteArray} (hS : S.Pairwise leS) : ∀ {k : Nat}, k ≤ S.length → (uniqTo S k).Nodup
  | 0, _ => by simp [uniqTo]
  | 1, hk => by
    obtain ⟨s, hs⟩ : ∃ s, S[0]? = some s := ⟨_, List.getElem?_eq_getElem (by omega)⟩
    rw [uniqTo_first hs]; simp [uniqTo]
  | k + 2, hk => by
    obtain ⟨s, hs⟩ : ∃ s, S[k + 1]? = some s := ⟨_, List.getElem?_eq_getElem (by omega)⟩
    obtain ⟨p, hp⟩ : ∃ p, S[k]? = some p := ⟨_, List.getElem?_eq_getElem (by omega)⟩
    by_cases he : s = p
    · rw [uniqTo_same hs hp he]; exact uniq_nodup hS (by omega)
    · rw [uniqTo_new hs hp he, List.nodup_append]
      refine ⟨uniq_nodup hS (by omega), by simp, fun a ha b hb e => ?_⟩
      rw [List.mem_singleton] at hb
      subst hb; subst e
      exact sorted_fresh hS hs hp he ((uniq_mem (by omega) a).1 ha)
theorem nodup_inj {U : List ByteArray} (h : U.Nodup) {i j : Nat} {s : ByteArray} (hi : U[i]? = some s) (hj : U[j]? = some s) : i = j := by
  obtain ⟨hi1, hi2⟩ := List.getElem?_eq_some_iff.1 hi
  obtain ⟨hj1, hj2⟩ := List.getElem?_eq_some_iff.1 hj
  have hp := List.pairwise_iff_getElem.1 h
  rcases Nat.lt_trichotomy i j with hlt | he | hlt
  · exact absurd (hi2.trans hj2.symm) (hp i j hi1 hj1 hlt)
  · exact he
  · exact absurd (hj2.trans hi2.symm) (hp j i hj1 hi1 hlt)
theorem cnt_snoc (l : List ByteArray) (s u : ByteArray) : cnt (l ++ [s]) u = cnt l u + if s = u then 1 else 0 := by
  unfold cnt
  rw [List.countP_append, List.countP_cons, List.countP_nil]
  by_cases h : s = u <;> simp [h]
theorem cntL_bump {U : List ByteArray} (hU : U.Nodup) {j : Nat} {s : ByteArray} (h : U[j]? = some s) (l : List ByteArray) : cntL U (l ++ [s]) = (cntL U l).set j (((cnt l s : Nat) : Int) + 1) := by
  apply List.ext_getElem?
  intro i
  unfold cntL
  rw [List.getElem?_set, List.getElem?_map, List.getElem?_map, List.length_map]
  obtain ⟨hj, hj2⟩ := List.getElem?_eq_some_iff.1 h
  by_cases e : j = i
  · subst e
    rw [if_pos rfl, if_pos hj, h]
    simp [cnt_snoc]
  · rw [if_neg e]
    cases hi : U[i]? with
    | none => rfl
    | some u =>
      have hne : ¬ s = u := fun e' => by
        subst e'
        exact e (nodup_inj hU h hi)
      simp [cnt_snoc, hne]
theorem cntL_new {U l : List ByteArray} {s : ByteArray} (h : s ∉ l) : cntL (U ++ [s]) l = cntL U l ++ [0] := by
  unfold cntL
  rw [List.map_append]
  have : cnt l s = 0 := by
    unfold cnt
    rw [List.countP_eq_zero]
    intro a ha e
    rw [decide_eq_true_eq] at e
    exact h (e ▸ ha)
  simp [this]
theorem cntL_zero (U : List ByteArray) : cntL U [] = List.replicate U.length 0 := by
  rw [List.eq_replicate_iff]
  simp [cntL, cnt]
theorem cntL_perm (U : List ByteArray) {l l' : List ByteArray} (h : l.Perm l') : cntL U l = cntL U l' := by
  unfold cntL cnt
  congr 1
  funext u
  rw [h.countP_eq]
theorem cntL_length (U l : List ByteArray) : (cntL U l).length = U.length := by simp [cntL]
theorem cntL_get {U l : List ByteArray} {j : Nat} {s : ByteArray} (h : U[j]? = some s) : (cntL U l)[j]? = some ((cnt l s : Nat) : Int) := by
  unfold cntL
  rw [List.getElem?_map, h]
  rfl
theorem cnt_le (l : List ByteArray) (s : ByteArray) : cnt l s ≤ l.length := List.countP_le_length
theorem uniq_len {S : List ByteArray} : ∀ {k : Nat}, (uniqTo S k).length ≤ k
  | 0 => by simp [uniqTo]
  | k + 1 => by
    have ih := uniq_len (S := S) (k := k)
    rw [uniqTo]
    split
    · omega
    · split
      · omega
      · simp; omega
/-- what slices.Compact keeps -/
theorem compact_uniq (S : List ByteArray) : ∀ {k : Nat}, k ≤ S.length → Lib.compactUpTo (S.map fun s => s.data.toList).toArray k = (uniqTo S k).map fun s => s.data.toList
  | 0, _ => rfl
  | k + 1, hk => by
    obtain ⟨s, hs⟩ : ∃ s, S[k]? = some s := ⟨_, List.getElem?_eq_getElem (by omega)⟩
    have hd : ∀ (i : Nat) (t : ByteArray), S[i]? = some t → (S.map fun s => s.data.toList).toArray[i]! = t.data.toList := fun i t h => by
      have h1 : (S.map fun s => s.data.toList)[i]? = some t.data.toList := by rw [List.getElem?_map, h]; rfl
      simp [getElem!_def, h1, h]
    rw [Lib.compactUpTo_succ, compact_uniq S (by omega), hd k s hs]
    rcases k with _ | k
    · rw [uniqTo_first hs, Lib.keeps_lt_one _ 0 (by omega)]; simp
    · obtain ⟨p, hp⟩ : ∃ p, S[k]? = some p := ⟨_, List.getElem?_eq_getElem (by omega)⟩
      by_cases he : s = p
      · rw [uniqTo_same hs hp he, Lib.keeps_neg (by omega) (by rw [hd _ s hs, Nat.add_sub_cancel, hd k p hp, he])]; simp
      · rw [uniqTo_new hs hp he, Lib.keeps_pos (by rw [hd _ s hs, Nat.add_sub_cancel, hd k p hp]; intro e; exact he (by rw [← ofL_self s, e, ofL_self]))]; simp
theorem compact_uniqB (S : List ByteArray) : Lib.compact (S.map fun s => s.data.toList) = (uniqB S).map fun s => s.data.toList := by
  unfold Lib.compact uniqB
  rw [List.length_map]
  exact compact_uniq S (Nat.le_refl _)
theorem index_uniq {U : List ByteArray} (hU : U.Nodup) {j : Nat} {s : ByteArray} (h : U[j]? = some s) : Lib.idxOfS U s = j := by
  obtain ⟨hj, hj2⟩ := List.getElem?_eq_some_iff.1 h
  have := Lib.idxFromS_hit s U j 0 hj (by rw [List.getD_eq_getElem?_getD, h]; rfl) (fun i hi e => by
    rw [List.getD_eq_getElem?_getD, List.getElem?_eq_getElem (by omega)] at e
    have hi : U[i]? = some s := by rw [List.getElem?_eq_getElem (by omega)]; exact congrArg some e
    have := nodup_inj hU hi h
    omega)
  rw [Nat.zero_add] at this
  exact this
/-- one step of the reference's count: a new text -/
theorem count_new {S : List ByteArray} (hS : S.Pairwise leS) {k z : Nat} {x : ByteArray} {r : List ByteArray} {t : List Int} (hk : S[k]? = some x) (hr : r = uniqTo S k) (ht : t = cntL r (S.take k)) (hz : r.length = z) (hu : uniqTo S (k + 1) = uniqTo S k ++ [x]) (hf : x ∉ S.take k) :
    r ++ [x] = uniqTo S (k + 1) ∧ (t ++ [0]).set z 1 = cntL (r ++ [x]) (S.take (k + 1)) := by
  subst hr ht hz
  refine ⟨hu.symm, ?_⟩
  have hk1 := (List.getElem?_eq_some_iff.1 hk).1
  have hn := uniq_nodup hS (k := k + 1) (by omega)
  rw [hu] at hn
  rw [take_snoc hk, cntL_bump hn (j := (uniqTo S k).length) (by simp), cntL_new hf]
  have : cnt (S.take k) x = 0 := by
    unfold cnt
    rw [List.countP_eq_zero]
    intro a ha e
    rw [decide_eq_true_eq] at e
    exact hf (e ▸ ha)
  rw [this]
  rfl
/-- .. and one that has come in before -/
theorem count_same {S : List ByteArray} (hS : S.Pairwise leS) {k z : Nat} {x p : ByteArray} {r : List ByteArray} {t : List Int} (hk : S[k + 1]? = some x) (hp : S[k]? = some p) (he : x = p) (hr : r = uniqTo S (k + 1)) (ht : t = cntL r (S.take (k + 1))) (hz : r.length = z) :
    ∃ q v : Nat, z = q + 1 ∧ t[q]? = some (v : Int) ∧ v ≤ k + 1 ∧ r = uniqTo S (k + 2) ∧ t.set q ((v : Int) + 1) = cntL r (S.take (k + 2)) := by
  subst ht hz
  have hk1 := (List.getElem?_eq_some_iff.1 hk).1
  obtain ⟨h1, h2⟩ := uniq_last (S := S) (k := k) (by omega)
  rw [← hr] at h1 h2
  have hn := uniq_nodup hS (k := k + 1) (by omega)
  rw [← hr] at hn
  have hx : r[r.length - 1]? = some x := by rw [h1, hp, he]
  have hc := cnt_le (S.take (k + 1)) x
  rw [List.length_take] at hc
  refine ⟨r.length - 1, cnt (S.take (k + 1)) x, by omega, cntL_get hx, by omega, ?_, ?_⟩
  · rw [hr, uniqTo_same hk hp he]
  · rw [take_snoc hk, cntL_bump hn hx]

end Go.Proofs.YtbdjhecbingcjaaGreatDoor
