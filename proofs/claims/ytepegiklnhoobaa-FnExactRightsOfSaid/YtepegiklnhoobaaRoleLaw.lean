/- When roles are as they should be, and what then is known of their names; the names under a role in order. Nothing here speaks of the program. -/
import Derived.Test.YtepegiklnhoobaaReach
import Derived.Test.YtepegiklnhoobaaCountLaw
namespace Go.Proofs.Ytepegiklnhoobaa
set_option linter.unusedVariables false
set_option linter.unusedSimpArgs false
set_option linter.unusedSectionVars false

/-- a stands before b -/
def ltN (a b : ByteArray) : Prop := leS a b ∧ a ≠ b
theorem ltN_irrefl (a : ByteArray) : ¬ ltN a a := fun h => h.2 rfl
theorem ltN_trans (a b c : ByteArray) (h1 : ltN a b) (h2 : ltN b c) : ltN a c := ⟨leS_trans h1.1 h2.1, fun e => by
  subst e
  exact h1.2 (leS_antisymm h1.1 h2.1)⟩
theorem less_ltN {a b : ByteArray} (h : Op.bytesLess a.toList b.toList = true) : ltN a b := ⟨less_leS a b h, fun e => by
  subst e
  rw [ByteArray.toList_eq, bytesLess_eq, decide_eq_true_eq] at h
  exact List.lt_irrefl _ h⟩

/-- role i is as it should be -/
def RoleOk (nm : ByteArray → Bool) (l : List DRole) (i : Nat) : Prop := ∀ x, l[i]? = some x → nm x.name = true ∧ (∀ y, 0 < i → l[i - 1]? = some y → Op.bytesLess y.name.toList x.name.toList = true) ∧
  ∀ (k : Nat) u, x.under[k]? = some u → (∃ j : Nat, fnd l u = j) ∧ ∀ v, 0 < k → x.under[k - 1]? = some v → Op.bytesLess v.toList u.toList = true
open Classical in
noncomputable def rolesBy (nm : ByteArray → Bool) (l : List DRole) : Bool := decide (l.length ≤ 12 ∧ (∀ i, RoleOk nm l i) ∧ ∀ i < l.length, ¬ Reach l i i)
section
variable {nm : ByteArray → Bool} {l : List DRole}
theorem rolesBy_true (h1 : l.length ≤ 12) (h2 : ∀ i, RoleOk nm l i) (h3 : ∀ i < l.length, ¬ Reach l i i) : rolesBy nm l = true := by simp [rolesBy, h1, h2]; exact h3
theorem rolesBy_spec (h : rolesBy nm l = true) : l.length ≤ 12 ∧ (∀ i, RoleOk nm l i) ∧ ∀ i < l.length, ¬ Reach l i i := by simpa [rolesBy] using h
theorem rolesBy_long (h1 : 12 < l.length) : rolesBy nm l = false := by
  unfold rolesBy
  rw [decide_eq_false_iff_not]
  intro h
  omega
theorem rolesBy_bad {i : Nat} (h : ¬ RoleOk nm l i) : rolesBy nm l = false := by
  unfold rolesBy
  rw [decide_eq_false_iff_not]
  exact fun h' => h (h'.2.1 i)
theorem rolesBy_round {i : Nat} (h : Reach l i i) : rolesBy nm l = false := by
  unfold rolesBy
  rw [decide_eq_false_iff_not]
  exact fun h' => h'.2.2 i h.lt h
theorem RoleOk.bad_name {i : Nat} {x : DRole} (hx : l[i]? = some x) (h : nm x.name = false) : ¬ RoleOk nm l i := fun hr => by
  have := (hr x hx).1
  rw [h] at this
  cases this
theorem RoleOk.bad_prev {i : Nat} {x y : DRole} (hx : l[i]? = some x) (hi : 0 < i) (hy : l[i - 1]? = some y) (h : Op.bytesLess y.name.toList x.name.toList = false) : ¬ RoleOk nm l i := fun hr => by
  have := (hr x hx).2.1 y hi hy
  rw [h] at this
  cases this
theorem RoleOk.bad_under {i k : Nat} {x : DRole} {u : ByteArray} (hx : l[i]? = some x) (hu : x.under[k]? = some u) (h : fnd l u = -1) : ¬ RoleOk nm l i := fun hr => by
  obtain ⟨j, hj⟩ := ((hr x hx).2.2 k u hu).1
  omega
theorem RoleOk.bad_order {i k : Nat} {x : DRole} {u v : ByteArray} (hx : l[i]? = some x) (hu : x.under[k]? = some u) (hk : 0 < k) (hv : x.under[k - 1]? = some v) (h : Op.bytesLess v.toList u.toList = false) : ¬ RoleOk nm l i := fun hr => by
  have := ((hr x hx).2.2 k u hu).2 v hk hv
  rw [h] at this
  cases this
theorem RoleOk.mk {i : Nat} {x : DRole} (hx : l[i]? = some x) (h1 : nm x.name = true) (h2 : ∀ y, 0 < i → l[i - 1]? = some y → Op.bytesLess y.name.toList x.name.toList = true)
    (h3 : ∀ (k : Nat) u, x.under[k]? = some u → (∃ j : Nat, fnd l u = j) ∧ ∀ v, 0 < k → x.under[k - 1]? = some v → Op.bytesLess v.toList u.toList = true) : RoleOk nm l i := fun y hy => by
  rw [hx] at hy
  cases hy
  exact ⟨h1, h2, h3⟩
theorem RoleOk.none {i : Nat} (h : l.length ≤ i) : RoleOk nm l i := fun x hx => by rw [List.getElem?_eq_none h] at hx; cases hx
theorem roles_sorted (h : ∀ i, RoleOk nm l i) : l.Pairwise fun x y => ltN x.name y.name := by
  have key : ∀ (d i : Nat) (x y : DRole), l[i]? = some x → l[i + d + 1]? = some y → ltN x.name y.name := by
    intro d
    induction d with
    | zero =>
      intro i x y hx hy
      exact less_ltN ((h (i + 1) y hy).2.1 x (by omega) (by simpa using hx))
    | succ d ih =>
      intro i x y hx hy
      have hlt := (List.getElem?_eq_some_iff.1 hy).1
      obtain ⟨z, hz⟩ : ∃ z, l[i + d + 1]? = some z := ⟨_, List.getElem?_eq_getElem (by omega)⟩
      refine ltN_trans _ _ _ (ih i x z hx hz) (less_ltN ((h (i + d + 2) y (by rw [← hy]; rfl)).2.1 z (by omega) (by rw [← hz]; congr 1)))
  rw [List.pairwise_iff_getElem]
  intro i j hi hj hij
  obtain ⟨d, rfl⟩ : ∃ d, j = i + d + 1 := ⟨j - i - 1, by omega⟩
  exact key d i _ _ (List.getElem?_eq_getElem hi) (List.getElem?_eq_getElem hj)
theorem sorted_inj (h : l.Pairwise fun x y => ltN x.name y.name) : NameInj l := fun i j x y hx hy e => by
  obtain ⟨hi, hi2⟩ := List.getElem?_eq_some_iff.1 hx
  obtain ⟨hj, hj2⟩ := List.getElem?_eq_some_iff.1 hy
  have hp := List.pairwise_iff_getElem.1 h
  rcases Nat.lt_trichotomy i j with hlt | he | hlt
  · have := hp i j hi hj hlt
    rw [hi2, hj2] at this
    exact absurd e this.2
  · exact he
  · have := hp j i hj hi hlt
    rw [hi2, hj2] at this
    exact absurd e.symm this.2
theorem roles_inj (h : ∀ i, RoleOk nm l i) : NameInj l := sorted_inj (roles_sorted h)
theorem roles_under (h : ∀ i, RoleOk nm l i) : UnderIn l := fun i x hx u hu => by
  obtain ⟨k, hk⟩ := List.mem_iff_getElem?.1 hu
  exact ((h i x hx).2.2 k u hk).1
end

theorem uniq_sub (S : List ByteArray) : ∀ k, (uniqTo S k).Sublist (S.take k)
  | 0 => by simp [uniqTo]
  | k + 1 => by
    have ih := uniq_sub S k
    rw [uniqTo]
    split
    · rename_i h
      rw [List.take_add_one, h]
      simpa using ih
    · rename_i s h
      rw [List.take_add_one, h]
      split
      · exact ih.trans (List.sublist_append_left _ _)
      · exact ih.append (List.Sublist.refl _)
theorem uniq_strict (l : List ByteArray) : (uniqB (sortB l)).Pairwise ltN := by
  have hs := sortB_sorted l
  have h1 : (uniqB (sortB l)).Pairwise leS := by
    have := uniq_sub (sortB l) (sortB l).length
    rw [List.take_length] at this
    exact hs.sublist this
  have h2 : (uniqB (sortB l)).Nodup := uniq_nodup hs (Nat.le_refl _)
  exact h1.imp₂ (fun a b h h' => ⟨h, h'⟩) h2
theorem uniq_all {l : List ByteArray} {u : ByteArray} : u ∈ uniqB (sortB l) ↔ u ∈ l := by
  unfold uniqB
  rw [uniq_mem (Nat.le_refl _), List.take_length]
  exact (sortB_perm l).mem_iff
/-- what the search finds, put in order: the names of the roles under one -/
theorem bfs_und {l : List DRole} {a : Nat} {names : List ByteArray} {p : ByteArray → Prop} (hs : l.Pairwise fun x y => ltN x.name y.name) (h : Bfs l a names p) (hp : ∀ u, ¬ p u) : uniqB (sortB names) = undN l a := by
  refine sorted_same ltN_irrefl ltN_trans _ _ (uniq_strict _) (undTo_sorted hs _) fun u => ?_
  have hi := sorted_inj hs
  rw [uniq_all]
  constructor
  · intro hu
    obtain ⟨j, x, _, hx, he⟩ := h.all hu
    rw [undN_mem]
    exact ⟨j, x, hx, (h.over hi hp hx).1 (by rw [he]; exact hu), he⟩
  · intro hu
    obtain ⟨j, x, hx, hr, he⟩ := undN_mem.1 hu
    rw [← he]
    exact (h.over hi hp hx).2 hr
theorem undN_iff {l : List DRole} {a j : Nat} {x : DRole} (hi : NameInj l) (hx : l[j]? = some x) : x.name ∈ undN l a ↔ Reach l a j := by
  rw [undN_mem]
  constructor
  · rintro ⟨j', y, hy, hr, e⟩
    obtain rfl : j' = j := hi _ _ _ _ hy hx e
    exact hr
  · exact fun hr => ⟨j, x, hx, hr, rfl⟩
end Go.Proofs.Ytepegiklnhoobaa
