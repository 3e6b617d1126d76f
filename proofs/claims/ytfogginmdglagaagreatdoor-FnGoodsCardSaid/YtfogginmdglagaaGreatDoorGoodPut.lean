/- A good put among goods, pieces taken again: plain laws. -/
import Derived.Test.YtfogginmdglagaaGreatDoorRows
import Derived.Test.YtfogginmdglagaaGreatDoorGoodPos
namespace Go.Proofs.YtfogginmdglagaaGreatDoor
set_option linter.unusedVariables false
set_option linter.unusedSimpArgs false
set_option linter.unusedSectionVars false
open Go.RowKit

def hadG (l : List DGood) (id : ByteArray) : Int := match l[posG l id]? with | some y => if eqG y id then y.fCount else 0 | none => 0
def newG (l : List DGood) (x : DGood) : DGood := ⟨x.fId, x.fCount + hadG l x.fId, x.fLeast, x.fPrice⟩
def putG (l : List DGood) (x : DGood) : List DGood := if foundG l x.fId then l.set (posG l x.fId) (newG l x) else l.take (posG l x.fId) ++ [x] ++ l.drop (posG l x.fId)
theorem had_none {l : List DGood} {id : ByteArray} (h : foundG l id = false) : hadG l id = 0 := by
  unfold foundG at h
  unfold hadG
  split
  · rename_i y hy
    rw [hy] at h
    rw [show eqG y id = false from h]
    rfl
  · rfl
theorem had_some {l : List DGood} {id : ByteArray} {y : DGood} (hy : l[posG l id]? = some y) (h : foundG l id = true) : hadG l id = y.fCount := by
  unfold foundG at h
  unfold hadG
  rw [hy] at h ⊢
  simp only at h ⊢
  rw [if_pos h]
theorem new_none {l : List DGood} {x : DGood} (h : foundG l x.fId = false) : newG l x = x := by
  unfold newG
  rw [had_none h, Int.add_zero]
theorem ins_get {α : Type} {l : List α} {x : α} {p j : Nat} (hp : p ≤ l.length) : (l.take p ++ [x] ++ l.drop p)[j]? = if j < p then l[j]? else if j = p then some x else l[j - 1]? := by
  have hl : (l.take p).length = p := by rw [List.length_take]; omega
  rw [List.append_assoc]
  by_cases h1 : j < p
  · rw [if_pos h1, List.getElem?_append_left (by omega), List.getElem?_take, if_pos h1]
  · rw [if_neg h1, List.getElem?_append_right (by omega), hl]
    by_cases h2 : j = p
    · subst h2
      rw [if_pos rfl, Nat.sub_self]
      rfl
    · rw [if_neg h2, show j - p = (j - 1 - p) + 1 by omega]
      show (l.drop p)[j - 1 - p]? = _
      rw [List.getElem?_drop]
      congr 1
      omega
theorem set_get' {α : Type} {l : List α} {x : α} {p j : Nat} (hp : p < l.length) : (l.set p x)[j]? = if j = p then some x else l[j]? := by
  rw [List.getElem?_set]
  by_cases h : p = j
  · subst h; simp [hp]
  · rw [if_neg h, if_neg (fun e => h e.symm)]
theorem found_lt {l : List DGood} {id : ByteArray} (h : foundG l id = true) : posG l id < l.length := by
  obtain ⟨y, hy, _⟩ := found_at h
  exact (List.getElem?_eq_some_iff.1 hy).1
/-- where the put good stands -/
theorem put_at {l : List DGood} (h : OkGoods l) (x : DGood) : (putG l x)[posG l x.fId]? = some (newG l x) := by
  unfold putG
  split
  · rename_i hf
    rw [set_get' (found_lt hf), if_pos rfl]
  · rename_i hf
    rw [ins_get (h.parts _).le, if_neg (by omega), if_pos rfl, new_none (by simpa using hf)]
/-- the others are as they were, under other names -/
theorem put_mem {l : List DGood} (h : OkGoods l) {x y : DGood} (hy : y ∈ putG l x) : y = newG l x ∨ (y ∈ l ∧ y.fId ≠ x.fId) := by
  unfold putG at hy
  split at hy
  · rename_i hf
    obtain ⟨j, hj⟩ := List.mem_iff_getElem?.1 hy
    rw [set_get' (found_lt hf)] at hj
    split at hj
    · exact .inl (Option.some.inj hj).symm
    · rename_i hne
      refine .inr ⟨List.mem_of_getElem? hj, fun e => hne ?_⟩
      obtain ⟨z, hz, hzi⟩ := found_at hf
      exact AscBy.at (f := fun x : DGood => x.fId) h.asc hj hz (e.trans hzi.symm)
  · rename_i hf
    have hf' : foundG l x.fId = false := by simpa using hf
    rw [new_none hf']
    rcases List.mem_append.1 hy with h1 | h1
    · rcases List.mem_append.1 h1 with h2 | h2
      · exact .inr ⟨List.mem_of_mem_take h2, h.not_found hf' y (List.mem_of_mem_take h2)⟩
      · exact .inl (List.mem_singleton.1 h2)
    · exact .inr ⟨List.mem_of_mem_drop h1, h.not_found hf' y (List.mem_of_mem_drop h1)⟩
theorem put_len {l : List DGood} (h : OkGoods l) (x : DGood) : (putG l x).length ≤ l.length + 1 := by
  have := (h.parts x.fId).le
  unfold putG
  split
  · rw [List.length_set]; omega
  · simp; omega
theorem leS_less {a b : ByteArray} (h : leS a b ∧ a ≠ b) : Op.bytesLess a.toList b.toList = true := by
  rw [ByteArray.toList_eq, ByteArray.toList_eq, bytesLess_eq, decide_eq_true_eq]
  rcases List.le_iff_lt_or_eq.1 h.1 with h1 | h1
  · exact h1
  · exact absurd (ba_ext h1) h.2
/-- not before, not the same: behind -/
theorem behind {x : DGood} {id : ByteArray} (h1 : ltG x id = false) (h2 : x.fId ≠ id) : Op.bytesLess id.toList x.fId.toList = true := by
  refine leS_less ⟨notless_leS _ _ h1, fun e => h2 e.symm⟩
theorem put_ok {l : List DGood} (h : OkGoods l) {x : DGood} (hx : okGood (newG l x) = true) (hs : x.fId.size ≤ maxLen) (h16 : l.length ≤ 15) : OkGoods (putG l x) where
  ok := fun y hy => by
    rcases put_mem h hy with rfl | h1
    · exact hx
    · exact h.ok y h1.1
  sz := fun y hy => by
    rcases put_mem h hy with rfl | h1
    · exact hs
    · exact h.sz y h1.1
  few := Nat.le_trans (put_len h x) (by omega)
  asc := fun j p y hp hy => by
    have hpt := h.parts x.fId
    unfold putG at hp hy
    split at hp
    · rename_i hf
      rw [if_pos hf] at hy
      obtain ⟨z, hz, hzi⟩ := found_at hf
      rw [set_get' (found_lt hf)] at hp hy
      split at hp
      · rename_i e
        rw [if_neg (by omega)] at hy
        have := Option.some.inj hp
        subst this
        rw [e] at hy
        show Op.bytesLess x.fId.toList _ = true
        rw [← hzi]
        exact h.asc _ z y hz hy
      · split at hy
        · rename_i e
          have := Option.some.inj hy
          subst this
          rw [← e] at hz
          show Op.bytesLess _ x.fId.toList = true
          rw [← hzi]
          exact h.asc _ p z hp hz
        · exact h.asc _ p y hp hy
    · rename_i hf
      have hf' : foundG l x.fId = false := by simpa using hf
      rw [if_neg hf] at hy
      rw [ins_get hpt.le] at hp hy
      by_cases h1 : j + 1 < posG l x.fId
      · rw [if_pos (by omega)] at hp
        rw [if_pos h1] at hy
        exact h.asc _ p y hp hy
      · rw [if_neg h1] at hy
        by_cases h2 : j + 1 = posG l x.fId
        · rw [if_pos h2] at hy
          rw [if_pos (by omega)] at hp
          have := Option.some.inj hy
          subst this
          exact hpt.lo j p (by omega) hp
        · rw [if_neg h2, Nat.add_sub_cancel] at hy
          rw [if_neg (by omega)] at hp
          by_cases h3 : j = posG l x.fId
          · rw [if_pos h3] at hp
            have := Option.some.inj hp
            subst this
            exact behind (hpt.hi j y (by omega) hy) (h.not_found hf' y (List.mem_of_getElem? hy))
          · rw [if_neg h3] at hp
            exact h.asc (j - 1) p y hp (by rw [show j - 1 + 1 = j by omega]; exact hy)
/-- pieces are taken from the good at p -/
def lessG (y : DGood) (m : Int) : DGood := ⟨y.fId, y.fCount - m, y.fLeast, y.fPrice⟩
structure TookAll (l : List DGood) (x : DGood) (t : List DGood) : Prop where
  own : ∀ y ∈ t, eqG y x.fId = true → y.fCount = hadG l x.fId ∧ y.fPrice = x.fPrice
  other : ∀ y ∈ t, ∀ z ∈ l, eqG z y.fId = true → eqG y x.fId = false → z = y
theorem took_all {l : List DGood} (h : OkGoods l) {x : DGood} (hp : OkGoods (putG l x)) : TookAll l x ((putG l x).set (posG l x.fId) (lessG (newG l x) x.fCount)) := by
  have hat := put_at h x
  have hlt := (List.getElem?_eq_some_iff.1 hat).1
  have key : ∀ y ∈ (putG l x).set (posG l x.fId) (lessG (newG l x) x.fCount), y = lessG (newG l x) x.fCount ∨ (y ∈ l ∧ y.fId ≠ x.fId) := fun y hy => by
    obtain ⟨j, hj⟩ := List.mem_iff_getElem?.1 hy
    rw [set_get' hlt] at hj
    split at hj
    · exact .inl (Option.some.inj hj).symm
    · rename_i hne
      rcases put_mem h (List.mem_of_getElem? hj) with h1 | h1
      · subst h1
        exact absurd (AscBy.at (f := fun x : DGood => x.fId) hp.asc hj hat rfl) hne
      · exact .inr h1
  constructor
  · intro y hy he
    rcases key y hy with rfl | h1
    · exact ⟨by show x.fCount + hadG l x.fId - x.fCount = _; omega, rfl⟩
    · exact absurd (eqG_iff.1 he) h1.2
  · intro y hy z hz he hne
    rcases key y hy with rfl | h1
    · have : eqG (lessG (newG l x) x.fCount) x.fId = true := eqG_iff.2 rfl
      rw [this] at hne
      cases hne
    · exact AscBy.one (f := fun x : DGood => x.fId) h.asc hz h1.1 (eqG_iff.1 he)
/-- what a loop over the goods finds -/
def hadF (id : ByteArray) (l : List DGood) : Int := l.foldl (fun h y => if eqG y id then y.fCount else h) 0
theorem hadF_take {l : List DGood} {k : Nat} {y : DGood} (id : ByteArray) (h : l[k]? = some y) : hadF id (l.take (k + 1)) = if eqG y id then y.fCount else hadF id (l.take k) := by
  rw [take_of_get h]
  unfold hadF
  rw [List.foldl_append]
  rfl
theorem hadF_none {id : ByteArray} : ∀ (l : List DGood) (a : Int), (∀ y ∈ l, eqG y id = false) → l.foldl (fun h y => if eqG y id then y.fCount else h) a = a
  | [], a, _ => rfl
  | y :: r, a, h => by
    rw [List.foldl_cons, h y (List.mem_cons_self ..)]
    exact hadF_none r a fun z hz => h z (List.mem_cons_of_mem _ hz)
theorem hadF_eq {l : List DGood} (h : OkGoods l) (id : ByteArray) : hadF id l = hadG l id := by
  rcases hf : foundG l id with _ | _
  · rw [had_none hf]
    exact hadF_none l 0 fun y hy => by
      have := h.not_found hf y hy
      rcases he : eqG y id with _ | _
      · rfl
      · exact absurd (eqG_iff.1 he) this
  · obtain ⟨y, hy, hyi⟩ := found_at hf
    rw [had_some hy hf]
    have hlt := (List.getElem?_eq_some_iff.1 hy).1
    have e : l = l.take (posG l id + 1) ++ l.drop (posG l id + 1) := (List.take_append_drop _ _).symm
    unfold hadF
    rw [e, List.foldl_append]
    have h1 : (l.take (posG l id + 1)).foldl (fun h y => if eqG y id then y.fCount else h) 0 = y.fCount := by
      have := hadF_take id hy
      unfold hadF at this
      rw [this, if_pos (eqG_iff.2 hyi)]
    rw [h1]
    exact hadF_none _ _ fun z hz => by
      obtain ⟨j, hj⟩ := List.mem_iff_getElem?.1 hz
      rw [List.getElem?_drop] at hj
      rcases he : eqG z id with _ | _
      · rfl
      · have := AscBy.at (f := fun x : DGood => x.fId) h.asc hj hy ((eqG_iff.1 he).trans hyi.symm)
        omega
end Go.Proofs.YtfogginmdglagaaGreatDoor
