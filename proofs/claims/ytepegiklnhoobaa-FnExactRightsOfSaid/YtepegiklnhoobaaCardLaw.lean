/- How many rights there are, and when a grant is needless. -/
import Derived.Test.YtepegiklnhoobaaRows
import Derived.Test.YtepegiklnhoobaaMayA
namespace Go.Proofs.Ytepegiklnhoobaa
set_option linter.unusedVariables false
set_option linter.unusedSimpArgs false
set_option linter.unusedSectionVars false
open Go.RowKit Go.Maps

theorem nodup_le {α : Type} : ∀ (a b : List α), a.Nodup → (∀ x ∈ a, x ∈ b) → a.length ≤ b.length
  | [], _, _, _ => Nat.zero_le _
  | x :: r, b, hn, hs => by
    obtain ⟨h1, h2⟩ := List.nodup_cons.1 hn
    obtain ⟨s, t, rfl⟩ := List.append_of_mem (hs x (by simp))
    have := nodup_le r (s ++ t) h2 fun y hy => by
      have h3 := hs y (by simp [hy])
      simp only [List.mem_append, List.mem_cons] at h3 ⊢
      rcases h3 with h3 | rfl | h3
      · exact .inl h3
      · exact absurd hy h1
      · exact .inr h3
    simp only [List.length_append, List.length_cons] at this ⊢
    omega
theorem addKey_mem {xs : List Lit} : ∀ {L : List Lit}, (∀ x ∈ xs, WideAt.IsKeyLit x) → L.Nodup → (xs.foldl addKey L).Nodup ∧ ∀ y, y ∈ xs.foldl addKey L ↔ y ∈ L ∨ y ∈ xs := by
  induction xs with
  | nil => intro L _ hn; exact ⟨hn, fun y => by simp⟩
  | cons x r ih =>
    intro L hk hn
    rw [List.foldl_cons]
    have hx := hk x (by simp)
    by_cases h : x ∈ L
    · have e : addKey L x = L := by
        unfold addKey
        rw [if_pos]
        rw [List.any_eq_true]
        exact ⟨x, h, WideAt.sameKey_self hx⟩
      rw [e]
      obtain ⟨h1, h2⟩ := ih (L := L) (fun y hy => hk y (by simp [hy])) hn
      refine ⟨h1, fun y => ?_⟩
      rw [h2 y, List.mem_cons]
      constructor
      · rintro (h3 | h3)
        · exact .inl h3
        · exact .inr (.inr h3)
      · rintro (h3 | rfl | h3)
        · exact .inl h3
        · exact .inl h
        · exact .inr h3
    · have e : addKey L x = L ++ [x] := by
        unfold addKey
        rw [if_neg]
        rw [List.any_eq_true]
        rintro ⟨y, hy, he⟩
        rw [WideAt.sameKey_eq he] at hy
        exact h hy
      rw [e]
      obtain ⟨h1, h2⟩ := ih (L := L ++ [x]) (fun y hy => hk y (by simp [hy])) (by
        rw [List.nodup_append]
        refine ⟨hn, by simp, fun a ha b hb eab => ?_⟩
        rw [List.mem_singleton] at hb
        rw [eab, hb] at ha
        exact h ha)
      refine ⟨h1, fun y => ?_⟩
      rw [h2 y, List.mem_append, List.mem_singleton, List.mem_cons]
      constructor
      · rintro ((h3 | h3) | h3)
        · exact .inl h3
        · exact .inr (.inl h3)
        · exact .inr (.inr h3)
      · rintro (h3 | h3 | h3)
        · exact .inl (.inl h3)
        · exact .inl (.inr h3)
        · exact .inr h3
/-- how many different rights are on a list -/
noncomputable def cardR (L : List Rt) : Nat := ((L.map keyRt).foldl addKey []).length
set_option maxRecDepth 100000 in
theorem cardR_set {L : List Rt} (h : ∀ p ∈ L, okRt p) : ((L.map keyRt).foldl addKey []).Nodup ∧ ∀ p, okRt p → (keyRt p ∈ (L.map keyRt).foldl addKey [] ↔ p ∈ L) := by
  obtain ⟨h1, h2⟩ := addKey_mem (xs := L.map keyRt) (L := []) (fun x hx => by
    obtain ⟨q, hq, rfl⟩ := List.mem_map.1 hx
    exact keyRt_lit (h q hq)) (by simp)
  refine ⟨h1, fun p hp => ?_⟩
  rw [h2]
  constructor
  · rintro (h3 | h3)
    · cases h3
    · obtain ⟨q, hq, he⟩ := List.mem_map.1 h3
      rw [keyRt_inj (h q hq) hp he] at hq
      exact hq
  · exact fun h3 => .inr (List.mem_map_of_mem h3)
set_option maxRecDepth 100000 in
theorem cardR_keys {L : List Rt} (h : ∀ p ∈ L, okRt p) : ∀ y ∈ (L.map keyRt).foldl addKey [], ∃ p ∈ L, keyRt p = y := by
  obtain ⟨_, h2⟩ := addKey_mem (xs := L.map keyRt) (L := []) (fun x hx => by
    obtain ⟨q, hq, rfl⟩ := List.mem_map.1 hx
    exact keyRt_lit (h q hq)) (by simp)
  intro y hy
  rcases (h2 y).1 hy with h3 | h3
  · cases h3
  · obtain ⟨q, hq, he⟩ := List.mem_map.1 h3
    exact ⟨q, hq, he⟩
set_option maxRecDepth 100000 in
theorem cardR_same {L L' : List Rt} (h : ∀ p ∈ L, okRt p) (h' : ∀ p ∈ L', okRt p) (hs : ∀ p, p ∈ L' → p ∈ L) : cardR L = cardR L' ↔ ∀ p, p ∈ L → p ∈ L' := by
  obtain ⟨n1, m1⟩ := cardR_set h
  obtain ⟨n2, m2⟩ := cardR_set h'
  have sub : ∀ {A B : List Rt}, (∀ p ∈ A, okRt p) → (∀ p ∈ B, okRt p) → (∀ p, p ∈ A → p ∈ B) → ∀ y ∈ (A.map keyRt).foldl addKey [], y ∈ (B.map keyRt).foldl addKey [] := fun hA hB hAB y hy => by
    obtain ⟨p, hp, rfl⟩ := cardR_keys hA y hy
    exact ((cardR_set hB).2 p (hA p hp)).2 (hAB p hp)
  constructor
  · intro he p hp
    by_cases hc : p ∈ L'
    · exact hc
    · have hk : keyRt p ∉ (L'.map keyRt).foldl addKey [] := fun hk => hc ((m2 p (h p hp)).1 hk)
      have := nodup_le (keyRt p :: (L'.map keyRt).foldl addKey []) ((L.map keyRt).foldl addKey []) (List.nodup_cons.2 ⟨hk, n2⟩) (fun y hy => by
        rcases List.mem_cons.1 hy with rfl | hy
        · exact (m1 p (h p hp)).2 hp
        · exact sub h' h hs y hy)
      unfold cardR at he
      rw [List.length_cons] at this
      omega
  · intro hs'
    unfold cardR
    exact Nat.le_antisymm (nodup_le _ _ n1 (sub h h' hs')) (nodup_le _ _ n2 (sub h' h hs))

open Classical in
noncomputable def sameB (rl : List DRole) (l l' : List DGrant) : Bool := decide (∀ j, j < rl.length → cardR (rightsT rl j l) = cardR (rightsT rl j l'))
theorem Reach.trans {l : List DRole} {a b c : Nat} (h : Reach l a b) (h' : Reach l b c) : Reach l a c := by
  induction h' with
  | one he => exact .more h he
  | more _ he ih => exact .more ih he
set_option maxRecDepth 100000 in
theorem holds_iff {rl : List DRole} {a k : Nat} {r : ByteArray} (hi : NameInj rl) (hk : fnd rl r = k) : holdsR rl a r = true ↔ k = a ∨ Reach rl a k := by
  obtain ⟨x, hx, rfl⟩ := fnd_some hk
  unfold holdsR
  rw [hk, Bool.or_eq_true, decide_eq_true_eq, isIn_true, undN_iff hi hx]
  constructor
  · rintro (h | h)
    · exact .inl (by omega)
    · exact .inr h
  · rintro (h | h)
    · exact .inl (by omega)
    · exact .inr h
set_option maxRecDepth 100000 in
theorem rights_ok {rl : List DRole} {l : List DGrant} {a : Nat} (hgo : ∀ x ∈ l, okG rl x = true) : ∀ p ∈ rightsT rl a l, okRt p := fun p hp => by
  obtain ⟨h1, x, hx, h2, h3⟩ := rights_pos hp
  obtain ⟨o1, o2, o3, _⟩ := okG_object (hgo x hx)
  exact ⟨by rw [← h2]; exact o1, wf64_small (by omega)⟩
theorem without_mem {l : List DGrant} {k : Nat} {x y : DGrant} (hx : l[k]? = some x) (hy : y ∈ l) : y ∈ l.take k ++ l.drop (k + 1) ∨ y = x := by
  obtain ⟨hk, he⟩ := List.getElem?_eq_some_iff.1 hx
  have e : l = l.take k ++ x :: l.drop (k + 1) := by rw [← he, ← List.drop_eq_getElem_cons hk, List.take_append_drop]
  rw [e] at hy
  simp only [List.mem_append, List.mem_cons] at hy ⊢
  rcases hy with h | h | h
  · exact .inl (.inl h)
  · exact .inr h
  · exact .inl (.inr h)
theorem without_sub {l : List DGrant} {k : Nat} {y : DGrant} (hy : y ∈ l.take k ++ l.drop (k + 1)) : y ∈ l := by
  rcases List.mem_append.1 hy with h | h
  · exact List.mem_of_mem_take h
  · exact List.mem_of_mem_drop h
set_option maxRecDepth 100000 in
/-- a grant is needless just if its own role still has the right without it -/
theorem needless {rl : List DRole} {l : List DGrant} {k q : Nat} {x : DGrant} (hi : NameInj rl) (hgo : ∀ x ∈ l, okG rl x = true) (hx : l[k]? = some x) (hq : fnd rl x.fRole = q) :
    sameB rl l (l.take k ++ l.drop (k + 1)) = mayB rl (l.take k ++ l.drop (k + 1)) q x.fObject x.fAction := by
  obtain ⟨l', hl'⟩ : ∃ l', l.take k ++ l.drop (k + 1) = l' := ⟨_, rfl⟩
  have hsub : ∀ y ∈ l', y ∈ l := fun y hy => without_sub (by rw [hl']; exact hy)
  have hgo' : ∀ y ∈ l', okG rl y = true := fun y hy => hgo y (hsub y hy)
  have hmem : ∀ y ∈ l, y ∈ l' ∨ y = x := fun y hy => by rw [← hl']; exact without_mem hx hy
  rw [hl']
  have hxa := okG_action (hgo x (List.mem_of_getElem? hx))
  have hsr : ∀ j p, p ∈ rightsT rl j l' → p ∈ rightsT rl j l := fun j p hp => by
    unfold rightsT at hp ⊢
    obtain ⟨y, hy, hm⟩ := List.mem_flatMap.1 hp
    exact List.mem_flatMap.2 ⟨y, hsub y hy, hm⟩
  have hcard := fun j => cardR_same (rights_ok (a := j) hgo) (rights_ok (a := j) hgo') (hsr j)
  rw [Bool.eq_iff_iff]
  unfold sameB
  rw [decide_eq_true_eq]
  constructor
  · intro h
    have hqq : holdsR rl q x.fRole = true := (holds_iff hi hq).2 (.inl rfl)
    have h1 : (x.fObject, x.fAction) ∈ rightsT rl q l := (rights_mem hxa.1).2 (may_at hx (by rw [hqq]; simp))
    exact (rights_mem hxa.1).1 ((hcard q).1 (h q (fnd_lt hq)) _ h1)
  · intro hm j _
    refine (hcard j).2 fun p hp => ?_
    obtain ⟨h1, _⟩ := rights_pos hp
    have hp' : (p.1, p.2) ∈ rightsT rl j l := hp
    rw [rights_mem h1] at hp'
    have goal : (p.1, p.2) ∈ rightsT rl j l' := by
      rw [rights_mem h1]
      unfold mayB at hp' hm ⊢
      rw [List.any_eq_true] at hp' hm ⊢
      obtain ⟨y, hy, hyt⟩ := hp'
      rcases hmem y hy with hy' | rfl
      · exact ⟨y, hy', hyt⟩
      · obtain ⟨z, hz, hzt⟩ := hm
        rw [Bool.and_eq_true, Bool.and_eq_true, decide_eq_true_eq, decide_eq_true_eq] at hyt hzt
        obtain ⟨s, hs⟩ := Int.eq_ofNat_of_zero_le (okG_object (hgo' z hz)).2.2.2
        refine ⟨z, hz, ?_⟩
        rw [Bool.and_eq_true, Bool.and_eq_true, decide_eq_true_eq, decide_eq_true_eq]
        refine ⟨(holds_iff hi hs).2 ?_, by rw [hzt.2.1, hyt.2.1], by omega⟩
        have h3 := (holds_iff hi hq).1 hyt.1
        have h4 := (holds_iff hi hs).1 hzt.1
        rcases h3 with rfl | h3
        · exact h4
        · rcases h4 with rfl | h4
          · exact .inr h3
          · exact .inr (h3.trans h4)
    exact goal
end Go.Proofs.Ytepegiklnhoobaa
