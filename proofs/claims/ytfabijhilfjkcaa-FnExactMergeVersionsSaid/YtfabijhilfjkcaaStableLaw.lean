/- A stable insertion sort seen from inside, and sums over lists: plain laws. Nothing here speaks of the program. -/
import Derived.Test.YtfabijhilfjkcaaCountLaw
namespace Go.Proofs.Ytfabijhilfjkcaa
set_option linter.unusedVariables false
set_option linter.unusedSimpArgs false
set_option linter.unusedSectionVars false

section
variable {α : Type} {R : α → α → Prop} {l L P M : List α} {i k : Nat} {x y : α}
/-- the first i are those of l, sorted; the rest is as it was -/
structure Stb (R : α → α → Prop) (l : List α) (i : Nat) (L : List α) : Prop where
  perm : (L.take i).Perm (l.take i)
  sorted : (L.take i).Pairwise R
  rest : L.drop i = l.drop i
  len : L.length = l.length
/-- one round of insertion: P ahead of the new one, M behind it -/
structure InsR (R : α → α → Prop) (l : List α) (i k : Nat) (L P : List α) (y : α) (M : List α) : Prop where
  eq : L = P ++ y :: (M ++ l.drop (i + 1))
  k : P.length = k
  perm : (P ++ M).Perm (l.take i)
  sorted : (P ++ M).Pairwise R
  small : ∀ m ∈ M, R y m
  gy : l[i]? = some y
theorem Stb.start (R : α → α → Prop) (l : List α) : Stb R l 0 l := ⟨by simp, by simp, rfl, rfl⟩
theorem Stb.one (R : α → α → Prop) (l : List α) : Stb R l 1 l := ⟨List.Perm.refl _, by cases l <;> simp, rfl, rfl⟩
theorem Stb.perm_all (h : Stb R l i L) (hi : l.length ≤ i) : L.Perm l := by
  have := h.perm
  rwa [List.take_of_length_le (by have := h.len; omega), List.take_of_length_le hi] at this
theorem Stb.sorted_all (h : Stb R l i L) (hi : l.length ≤ i) : L.Pairwise R := by
  have := h.sorted
  rwa [List.take_of_length_le (by have := h.len; omega)] at this
theorem InsR.start (h : Stb R l i L) (hy : l[i]? = some y) : InsR R l i i L (L.take i) y [] where
  eq := by
    have hd : L.drop i = y :: l.drop (i + 1) := by
      rw [h.rest]
      obtain ⟨hi, rfl⟩ := List.getElem?_eq_some_iff.1 hy
      exact List.drop_eq_getElem_cons hi
    rw [List.nil_append, ← hd, List.take_append_drop]
  k := by have := (List.getElem?_eq_some_iff.1 hy).1; have := h.len; rw [List.length_take]; omega
  perm := by rw [List.append_nil]; exact h.perm
  sorted := by rw [List.append_nil]; exact h.sorted
  small := fun m hm => by cases hm
  gy := hy
theorem InsR.ilen (h : InsR R l i k L P y M) : P.length + M.length = i := by
  have h1 := h.perm.length_eq
  have := (List.getElem?_eq_some_iff.1 h.gy).1
  rw [List.length_append, List.length_take] at h1
  omega
theorem InsR.old (h : InsR R l i k L P y M) (hx : x ∈ P) : x ∈ l.take i := h.perm.subset (List.mem_append_left _ hx)
theorem InsR.swap (h : InsR R l i (k + 1) L (P ++ [x]) y M) (hxy : R y x) : InsR R l i k (P ++ y :: (x :: M ++ l.drop (i + 1))) P y (x :: M) where
  eq := rfl
  k := by have := h.k; simp at this; omega
  perm := by have := h.perm; rw [List.append_assoc] at this; exact this
  sorted := by have := h.sorted; rw [List.append_assoc] at this; exact this
  small := fun m hm => by
    rcases List.mem_cons.1 hm with rfl | hm
    · exact hxy
    · exact h.small m hm
  gy := h.gy
theorem InsR.close (h : InsR R l i k L P y M) (hP : ∀ p ∈ P, R p y) : Stb R l (i + 1) L := by
  have hl : (P ++ y :: M).length = i + 1 := by have := h.ilen; simp; omega
  have e : L = (P ++ y :: M) ++ l.drop (i + 1) := by rw [h.eq]; simp
  have e1 : L.take (i + 1) = P ++ y :: M := by rw [e, ← hl, List.take_left']; rfl
  have e2 : L.drop (i + 1) = l.drop (i + 1) := by
    conv => lhs; rw [e]
    exact List.drop_left' hl
  have e3 : l.take (i + 1) = l.take i ++ [y] := take_snoc h.gy
  refine ⟨?_, ?_, e2, ?_⟩
  · rw [e1, e3]
    exact (List.perm_middle.trans (List.Perm.cons y h.perm)).trans (List.perm_append_comm (l₁ := [y]))
  · rw [e1]
    have hs := h.sorted
    rw [List.pairwise_append] at hs ⊢
    refine ⟨hs.1, List.pairwise_cons.2 ⟨h.small, hs.2.1⟩, fun a ha b hb => ?_⟩
    rcases List.mem_cons.1 hb with rfl | hb
    · exact hP a ha
    · exact hs.2.2 a ha b hb
  · have h1 := (List.getElem?_eq_some_iff.1 h.gy).1
    rw [e, List.length_append, hl, List.length_drop]
    omega
theorem InsR.first (h : InsR R l i 0 L [] y M) : Stb R l (i + 1) L := h.close fun p hp => by cases hp
theorem InsR.stop (tr : ∀ a b c, R a b → R b c → R a c) (h : InsR R l i (k + 1) L (P ++ [x]) y M) (hxy : R x y) : Stb R l (i + 1) L := h.close fun p hp => by
  rcases List.mem_append.1 hp with hp | hp
  · refine tr _ _ _ ?_ hxy
    have hs := h.sorted
    rw [List.append_assoc, List.pairwise_append] at hs
    exact hs.2.2 p hp x (by simp)
  · rw [List.mem_singleton.1 hp]; exact hxy
end

def sumBy {α : Type} (f : α → Int) : List α → Int
  | [] => 0
  | x :: r => f x + sumBy f r
theorem sumBy_app {α : Type} (f : α → Int) (a b : List α) : sumBy f (a ++ b) = sumBy f a + sumBy f b := by
  induction a with
  | nil => simp [sumBy]
  | cons x r ih => simp only [List.cons_append, sumBy, ih]; omega
theorem sumBy_take {α : Type} {f : α → Int} {l : List α} {k : Nat} {x : α} (h : l[k]? = some x) : sumBy f (l.take (k + 1)) = sumBy f (l.take k) + f x := by
  rw [take_snoc h, sumBy_app]; simp [sumBy]
theorem sumBy_drop {α : Type} {f : α → Int} {l : List α} {k : Nat} {x : α} (h : l[k]? = some x) : sumBy f (l.drop k) = f x + sumBy f (l.drop (k + 1)) := by
  obtain ⟨hk, rfl⟩ := List.getElem?_eq_some_iff.1 h
  rw [List.drop_eq_getElem_cons hk]; rfl
theorem sumBy_range {α : Type} {f : α → Int} {M : Int} {l : List α} (h : ∀ x ∈ l, 0 ≤ f x ∧ f x ≤ M) : 0 ≤ sumBy f l ∧ sumBy f l ≤ M * l.length := by
  induction l with
  | nil => simp [sumBy]
  | cons x r ih =>
    have h1 := h x (List.mem_cons_self ..)
    have h2 := ih fun y hy => h y (List.mem_cons_of_mem _ hy)
    rw [sumBy, List.length_cons]
    push_cast
    rw [Int.mul_add, Int.mul_one]
    omega
theorem sumBy_add {α : Type} (f g : α → Int) (l : List α) : sumBy (fun x => f x + g x) l = sumBy f l + sumBy g l := by
  induction l with
  | nil => rfl
  | cons x r ih => simp only [sumBy, ih]; omega
theorem sumBy_zero {α : Type} (l : List α) : sumBy (fun _ => (0 : Int)) l = 0 := by
  induction l with
  | nil => rfl
  | cons x r ih => simp only [sumBy, ih]; omega
theorem sumBy_eq {α : Type} {f g : α → Int} {l : List α} (h : ∀ x ∈ l, f x = g x) : sumBy f l = sumBy g l := by
  induction l with
  | nil => rfl
  | cons x r ih => simp only [sumBy, h x (by simp), ih fun y hy => h y (by simp [hy])]
section
variable {α : Type} {f : α → ByteArray} {g : α → Int}
/-- what comes to one name -/
def spentOf (f : α → ByteArray) (g : α → Int) (l : List α) (s : ByteArray) : Int := sumBy (fun x => if f x = s then g x else 0) l
theorem one_name (v : Int) (s : ByteArray) : ∀ {U : List ByteArray}, U.Nodup → s ∈ U → sumBy (fun u => if s = u then v else 0) U = v
  | [], _, h => by cases h
  | u :: U, hn, h => by
    rw [List.nodup_cons] at hn
    by_cases e : s = u
    · have h0 : sumBy (fun u => if s = u then v else 0) U = 0 := by
        rw [sumBy_eq (g := fun _ => 0) fun x hx => if_neg fun e' => hn.1 (by rw [← e, e']; exact hx), sumBy_zero]
      rw [sumBy, if_pos e, h0, Int.add_zero]
    · rw [sumBy, if_neg e, Int.zero_add]
      exact one_name v s hn.2 ((List.mem_cons.1 h).resolve_left e)
/-- what comes to all names is all -/
theorem spent_all {U : List ByteArray} (hU : U.Nodup) : ∀ {l : List α}, (∀ x ∈ l, f x ∈ U) → sumBy (spentOf f g l) U = sumBy g l
  | [], _ => by
    have e : sumBy (spentOf f g []) U = sumBy (fun _ => 0) U := sumBy_eq fun _ _ => rfl
    rw [e, sumBy_zero]; rfl
  | x :: r, h => by
    have e : sumBy (spentOf f g (x :: r)) U = sumBy (fun s => (if f x = s then g x else 0) + spentOf f g r s) U := sumBy_eq fun s _ => rfl
    rw [e, sumBy_add, one_name (g x) (f x) hU (h x (by simp)), spent_all hU fun y hy => h y (by simp [hy])]
    rfl
theorem spent_range {M : Int} {l : List α} (h : ∀ x ∈ l, 0 ≤ g x ∧ g x ≤ M) (s : ByteArray) : 0 ≤ spentOf f g l s ∧ spentOf f g l s ≤ M * l.length := sumBy_range fun x hx => by
  have := h x hx
  show 0 ≤ (if f x = s then g x else 0) ∧ (if f x = s then g x else 0) ≤ M
  split <;> omega
/-- those who spent most come first; of equals the lesser name -/
def bestR (sp : ByteArray → Int) (a b : ByteArray) : Prop := sp b < sp a ∨ (sp a = sp b ∧ leS a b ∧ a ≠ b)
theorem bestR.trans {sp : ByteArray → Int} (a b c : ByteArray) (h : bestR sp a b) (h' : bestR sp b c) : bestR sp a c := by
  rcases h with h | ⟨h, h1, h2⟩
  · rcases h' with h' | ⟨h', _, _⟩
    · exact .inl (by omega)
    · exact .inl (by omega)
  · rcases h' with h' | ⟨h', h3, h4⟩
    · exact .inl (by omega)
    · exact .inr ⟨by omega, leS_trans h1 h3, fun e => by subst e; exact h2 (leS_antisymm h1 h3)⟩
/-- names of a list, in order, each once -/
theorem names_nodup (l : List ByteArray) : (uniqB (sortB l)).Nodup := uniq_nodup (sortB_sorted l) (Nat.le_refl _)
theorem names_mem (l : List ByteArray) (x : ByteArray) : x ∈ uniqB (sortB l) ↔ x ∈ l := by
  unfold uniqB
  rw [uniq_mem (Nat.le_refl _), List.take_of_length_le (Nat.le_refl _)]
  exact (sortB_perm l).mem_iff
theorem uniqTo_sub (S : List ByteArray) : ∀ k, k ≤ S.length → (uniqTo S k).Sublist (S.take k)
  | 0, _ => by simp [uniqTo]
  | 1, h => by
    obtain ⟨s, hs⟩ : ∃ s, S[0]? = some s := ⟨_, List.getElem?_eq_getElem (by omega)⟩
    rw [uniqTo_first hs, take_snoc hs]
    exact List.Sublist.append (uniqTo_sub S 0 (by omega)) (List.Sublist.refl _)
  | k + 2, h => by
    obtain ⟨s, hs⟩ : ∃ s, S[k + 1]? = some s := ⟨_, List.getElem?_eq_getElem (by omega)⟩
    obtain ⟨p, hp⟩ : ∃ p, S[k]? = some p := ⟨_, List.getElem?_eq_getElem (by omega)⟩
    have ih := uniqTo_sub S (k + 1) (by omega)
    rw [take_snoc hs]
    by_cases e : s = p
    · rw [uniqTo_same hs hp e]
      exact ih.trans (List.sublist_append_left _ _)
    · rw [uniqTo_new hs hp e]
      exact List.Sublist.append ih (List.Sublist.refl _)
theorem names_asc (l : List ByteArray) : (uniqB (sortB l)).Pairwise fun a b => leS a b ∧ a ≠ b := by
  have h1 : (uniqB (sortB l)).Pairwise leS := by
    have := uniqTo_sub (sortB l) (sortB l).length (Nat.le_refl _)
    rw [List.take_of_length_le (Nat.le_refl _)] at this
    exact List.Pairwise.sublist this (sortB_sorted l)
  exact h1.and (names_nodup l)
theorem names_len (l : List ByteArray) : (uniqB (sortB l)).length ≤ l.length := by
  have := uniq_len (S := sortB l) (k := (sortB l).length)
  rw [sortB_length] at this
  unfold uniqB
  rw [sortB_length]
  exact this
end
end Go.Proofs.Ytfabijhilfjkcaa
