/- All rights of a role as a list: without a twice, as many as the set of rights holds. -/
import Derived.Test.YtepegiklnhoobaaCardLaw
import Derived.Test.YtepegiklnhoobaaPut
namespace Go.Proofs.Ytepegiklnhoobaa
set_option linter.unusedVariables false
set_option linter.unusedSimpArgs false
set_option linter.unusedSectionVars false
open Go.RowKit Go.Maps

theorem ltS_trans {a b c : ByteArray} (h1 : ltS a b = true) (h2 : ltS b c = true) : ltS a c = true := by
  rw [ltS_cmp, decide_eq_true_eq] at *
  exact cmpS_trans h1 h2
theorem ltS_irrefl (a : ByteArray) : ltS a a = false := by
  rw [ltS_cmp, decide_eq_false_iff_not, (cmpS_zero a a).2 rfl]
  decide
theorem ltS_or {a b : ByteArray} (h : ltS a b = false) (hne : a ≠ b) : ltS b a = true := by
  rw [ltS_cmp, decide_eq_false_iff_not] at h
  rw [ltS_cmp, decide_eq_true_eq, cmpS_swap a b]
  have := cmpS_zero a b
  have h0 : cmpS a b ≠ 0 := fun h => hne (this.1 h)
  omega
theorem put_mem {l : List ByteArray} {x y : ByteArray} : y ∈ putL l x ↔ y ∈ l ∨ y = x := by
  by_cases h : l[putK l x]? = some x
  · rw [put_there rfl h]
    constructor
    · exact fun h => .inl h
    · rintro (h1 | rfl)
      · exact h1
      · exact List.mem_of_getElem? h
  · rw [put_new rfl h]
    conv => rhs; rw [← List.take_append_drop (putK l x) l]
    simp only [List.mem_append, List.mem_singleton]
    constructor
    · rintro ((h | h) | h)
      · exact .inl (.inl h)
      · exact .inr h
      · exact .inl (.inr h)
    · rintro ((h | h) | h)
      · exact .inl (.inl h)
      · exact .inr h
      · exact .inl (.inr h)
theorem put_sorted {l : List ByteArray} {x : ByteArray} (hs : l.Pairwise fun a b => ltS a b = true) : (putL l x).Pairwise fun a b => ltS a b = true := by
  by_cases h : l[putK l x]? = some x
  · rw [put_there rfl h]; exact hs
  · rw [put_new rfl h]
    have hlow : ∀ z ∈ l.take (putK l x), ltS z x = true := fun z hz => by
      obtain ⟨i, hi⟩ := List.mem_iff_getElem?.1 hz
      have hlt : i < putK l x := by
        have := (List.getElem?_eq_some_iff.1 hi).1
        rw [List.length_take] at this
        omega
      rw [List.getElem?_take_of_lt hlt] at hi
      exact takeWhile_get (fun y => ltS y x) l i z hlt hi
    have hup : ∀ z ∈ l.drop (putK l x), ltS x z = true := fun z hz => by
      obtain ⟨i, hi⟩ := List.mem_iff_getElem?.1 hz
      rw [List.getElem?_drop] at hi
      have hk : putK l x < l.length := by
        have := (List.getElem?_eq_some_iff.1 hi).1
        omega
      obtain ⟨y, hy⟩ : ∃ y, l[putK l x]? = some y := ⟨_, List.getElem?_eq_getElem hk⟩
      have hny : ltS y x = false := takeWhile_stop (fun y => ltS y x) l y hy
      have hxy : ltS x y = true := ltS_or hny (fun e => h (by rw [hy, e]))
      cases i with
      | zero =>
        rw [Nat.add_zero, hy] at hi
        cases hi
        exact hxy
      | succ i => exact ltS_trans hxy (pair_lt hs (by omega) hy hi)
    rw [List.append_assoc, List.pairwise_append]
    refine ⟨hs.sublist (List.take_sublist _ _), ?_, fun a ha b hb => ?_⟩
    · rw [List.singleton_append, List.pairwise_cons]
      exact ⟨hup, hs.sublist (List.drop_sublist _ _)⟩
    · rw [List.singleton_append, List.mem_cons] at hb
      rcases hb with rfl | hb
      · exact hlow a ha
      · exact ltS_trans (hlow a ha) (hup b hb)

noncomputable def objsTo (l : List DGrant) (k : Nat) : List ByteArray := (l.take k).foldl (fun acc x => putL acc x.fObject) []
theorem objs_step {l : List DGrant} {k : Nat} {x : DGrant} (hx : l[k]? = some x) : objsTo l (k + 1) = putL (objsTo l k) x.fObject := by
  unfold objsTo
  rw [List.take_add_one, hx, List.foldl_append]
  rfl
noncomputable def objs (l : List DGrant) : List ByteArray := objsTo l l.length
theorem foldPut : ∀ (l : List DGrant) (acc : List ByteArray), acc.Pairwise (fun a b => ltS a b = true) → (l.foldl (fun acc x => putL acc x.fObject) acc).Pairwise (fun a b => ltS a b = true) ∧ ∀ y, y ∈ l.foldl (fun acc x => putL acc x.fObject) acc ↔ y ∈ acc ∨ ∃ x ∈ l, x.fObject = y
  | [], acc, h => ⟨h, fun y => by simp⟩
  | x :: r, acc, h => by
    obtain ⟨h1, h2⟩ := foldPut r (putL acc x.fObject) (put_sorted h)
    refine ⟨h1, fun y => ?_⟩
    rw [List.foldl_cons, h2 y, put_mem]
    constructor
    · rintro ((h | rfl) | ⟨z, hz, e⟩)
      · exact .inl h
      · exact .inr ⟨x, by simp, rfl⟩
      · exact .inr ⟨z, by simp [hz], e⟩
    · rintro (h | ⟨z, hz, e⟩)
      · exact .inl (.inl h)
      · rcases List.mem_cons.1 hz with rfl | hz
        · exact .inl (.inr e.symm)
        · exact .inr ⟨z, hz, e⟩
theorem objs_law (l : List DGrant) : (objs l).Pairwise (fun a b => ltS a b = true) ∧ ∀ y, y ∈ objs l ↔ ∃ x ∈ l, x.fObject = y := by
  have h := foldPut l [] List.Pairwise.nil
  unfold objs objsTo
  rw [List.take_length]
  exact ⟨h.1, fun y => by rw [h.2 y]; simp⟩

noncomputable def rowTo (rl : List DRole) (l : List DGrant) (j : Nat) (o : ByteArray) (m : Nat) : List Rt := (List.range m).flatMap fun (i : Nat) => if mayB rl l j o ((i : Int) + 1) then [(o, (i : Int) + 1)] else []
theorem row_out {rl : List DRole} {l : List DGrant} {j m : Nat} {o : ByteArray} (h : mayB rl l j o ((m : Int) + 1) = false) : rowTo rl l j o (m + 1) = rowTo rl l j o m := by
  unfold rowTo
  rw [List.range_succ, List.flatMap_append]
  simp [h]
theorem row_in {rl : List DRole} {l : List DGrant} {j m : Nat} {o : ByteArray} (h : mayB rl l j o ((m : Int) + 1) = true) : rowTo rl l j o (m + 1) = rowTo rl l j o m ++ [(o, (m : Int) + 1)] := by
  unfold rowTo
  rw [List.range_succ, List.flatMap_append]
  simp [h]
noncomputable def rowsTo (rl : List DRole) (l : List DGrant) (j : Nat) (i : Nat) : List Rt := ((objs l).take i).flatMap fun o => rowTo rl l j o 3
theorem rows_step {rl : List DRole} {l : List DGrant} {j i : Nat} {o : ByteArray} (h : (objs l)[i]? = some o) : rowsTo rl l j (i + 1) = rowsTo rl l j i ++ rowTo rl l j o 3 := by
  unfold rowsTo
  rw [List.take_add_one, h, List.flatMap_append]
  simp
noncomputable def rows (rl : List DRole) (l : List DGrant) (j : Nat) : List Rt := rowsTo rl l j (objs l).length
def toG (nm : ByteArray) (L : List Rt) : List DGrant := L.map fun p => ⟨nm, p.1, p.2⟩
theorem row_mem {rl : List DRole} {l : List DGrant} {j m : Nat} {o : ByteArray} {p : Rt} : p ∈ rowTo rl l j o m ↔ p.1 = o ∧ 1 ≤ p.2 ∧ p.2 ≤ m ∧ mayB rl l j o p.2 = true := by
  unfold rowTo
  rw [List.mem_flatMap]
  constructor
  · rintro ⟨i, hi, h⟩
    split at h
    · next hm =>
      rw [List.mem_singleton] at h
      subst h
      have := List.mem_range.1 hi
      exact ⟨rfl, by simp; omega, by simp; omega, hm⟩
    · cases h
  · rintro ⟨rfl, h1, h2, h3⟩
    refine ⟨(p.2 - 1).toNat, List.mem_range.2 (by omega), ?_⟩
    have e : (((p.2 - 1).toNat : Nat) : Int) + 1 = p.2 := by omega
    rw [e, if_pos h3]
    simp
theorem row_nodup {rl : List DRole} {l : List DGrant} {j : Nat} {o : ByteArray} : ∀ m, (rowTo rl l j o m).Nodup
  | 0 => by simp [rowTo]
  | m + 1 => by
    have ih := row_nodup (rl := rl) (l := l) (j := j) (o := o) m
    cases h : mayB rl l j o ((m : Int) + 1)
    · rw [row_out h]; exact ih
    · rw [row_in h, List.nodup_append]
      refine ⟨ih, by simp, fun a ha b hb => ?_⟩
      rw [List.mem_singleton] at hb
      subst hb
      rintro rfl
      have := (row_mem.1 ha).2.2.1
      simp at this
      omega
theorem row_len {rl : List DRole} {l : List DGrant} {j : Nat} {o : ByteArray} : ∀ m, (rowTo rl l j o m).length ≤ m
  | 0 => by simp [rowTo]
  | m + 1 => by
    have ih := row_len (rl := rl) (l := l) (j := j) (o := o) m
    cases h : mayB rl l j o ((m : Int) + 1)
    · rw [row_out h]; omega
    · rw [row_in h]; simp; omega
theorem rows_mem {rl : List DRole} {l : List DGrant} {j : Nat} (hgo : ∀ x ∈ l, okG rl x = true) {p : Rt} : p ∈ rows rl l j ↔ p ∈ rightsT rl j l := by
  unfold rows rowsTo
  rw [List.take_length, List.mem_flatMap]
  constructor
  · rintro ⟨o, _, h⟩
    obtain ⟨h1, h2, _, h4⟩ := row_mem.1 h
    subst h1
    exact (rights_mem h2).2 h4
  · intro h
    obtain ⟨h1, x, hx, hxo, hxa⟩ := rights_pos h
    have := okG_action (hgo x hx)
    exact ⟨p.1, ((objs_law l).2 p.1).2 ⟨x, hx, hxo⟩, row_mem.2 ⟨rfl, h1, by omega, (rights_mem h1).1 h⟩⟩
theorem rows_nodup_of : ∀ (os : List ByteArray) (f : ByteArray → List Rt), os.Pairwise (fun a b => ltS a b = true) → (∀ o, (f o).Nodup) → (∀ o, ∀ p ∈ f o, p.1 = o) → (os.flatMap f).Nodup
  | [], _, _, _, _ => by simp
  | o :: r, f, h, hf, hp => by
    rw [List.flatMap_cons, List.nodup_append]
    rw [List.pairwise_cons] at h
    refine ⟨hf o, rows_nodup_of r f h.2 hf hp, fun a ha b hb => ?_⟩
    rintro rfl
    obtain ⟨o2, ho2, hb2⟩ := List.mem_flatMap.1 hb
    have e : o = o2 := (hp o a ha).symm.trans (hp o2 a hb2)
    subst e
    have := h.1 o ho2
    rw [ltS_irrefl] at this
    cases this
theorem rows_nodup {rl : List DRole} {l : List DGrant} {j : Nat} : (rows rl l j).Nodup := by
  unfold rows rowsTo
  rw [List.take_length]
  exact rows_nodup_of _ _ (objs_law l).1 (fun o => row_nodup 3) (fun o p h => (row_mem.1 h).1)
theorem nodup_keys {L : List Rt} (h : ∀ p ∈ L, okRt p) (hn : L.Nodup) : (L.map keyRt).Nodup := by
  induction L with
  | nil => simp
  | cons p r ih =>
    rw [List.nodup_cons] at hn
    rw [List.map_cons, List.nodup_cons]
    refine ⟨fun hm => ?_, ih (fun q hq => h q (by simp [hq])) hn.2⟩
    obtain ⟨q, hq, e⟩ := List.mem_map.1 hm
    exact hn.1 (keyRt_inj (h q (by simp [hq])) (h p (by simp)) e ▸ hq)
theorem card_of {L M : List Rt} (h : ∀ p ∈ L, okRt p) (hn : M.Nodup) (hm : ∀ p, p ∈ M ↔ p ∈ L) : cardR L = M.length := by
  have hM : ∀ p ∈ M, okRt p := fun p hp => h p ((hm p).1 hp)
  obtain ⟨h1, h2⟩ := cardR_set h
  have h3 := cardR_keys h
  have hk := nodup_keys hM hn
  have a1 : (M.map keyRt).length ≤ cardR L := by
    unfold cardR
    refine nodup_le _ _ hk (fun y hy => ?_)
    obtain ⟨p, hp, rfl⟩ := List.mem_map.1 hy
    exact (h2 p (hM p hp)).2 ((hm p).1 hp)
  have a2 : cardR L ≤ (M.map keyRt).length := by
    unfold cardR
    refine nodup_le _ _ h1 (fun y hy => ?_)
    obtain ⟨p, hp, rfl⟩ := h3 y hy
    exact List.mem_map_of_mem ((hm p).2 hp)
  rw [List.length_map] at a1 a2
  omega
theorem rows_card {rl : List DRole} {l : List DGrant} {j : Nat} (hgo : ∀ x ∈ l, okG rl x = true) : (rows rl l j).length = cardR (rightsT rl j l) :=
  (card_of (rights_ok (a := j) hgo) rows_nodup (fun p => rows_mem hgo)).symm
end Go.Proofs.Ytepegiklnhoobaa
