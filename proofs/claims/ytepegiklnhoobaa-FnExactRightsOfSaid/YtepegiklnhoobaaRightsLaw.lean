/- All rights of a role in order: what any order of the set sorts to. -/
import Derived.Test.YtepegiklnhoobaaRows
import Derived.Test.YtepegiklnhoobaaPutLaw
import Derived.Test.YtepegiklnhoobaaOwnK
namespace Go.Proofs.Ytepegiklnhoobaa
set_option linter.unusedVariables false
set_option linter.unusedSimpArgs false
set_option linter.unusedSectionVars false
open Go.RowKit Go.Maps Go.Sort

theorem cmpGr_swap (x y : DGrant) : cmpGr y x = - cmpGr x y := by
  unfold cmpGr
  have h1 := cmpS_swap x.fRole y.fRole
  have h2 := cmpS_swap x.fObject y.fObject
  by_cases e1 : cmpS x.fRole y.fRole = 0
  · have e1' : cmpS y.fRole x.fRole = 0 := by omega
    simp only [e1, e1', ne_eq, not_true_eq_false, if_false]
    by_cases e2 : cmpS x.fObject y.fObject = 0
    · have e2' : cmpS y.fObject x.fObject = 0 := by omega
      simp only [e2, e2', not_true_eq_false, if_false]
      omega
    · have e2' : ¬ cmpS y.fObject x.fObject = 0 := by omega
      simp only [e2, e2', not_false_eq_true, if_true]
      exact h2
  · have e1' : ¬ cmpS y.fRole x.fRole = 0 := by omega
    simp only [ne_eq, e1, e1', not_false_eq_true, if_true]
    exact h1
theorem cmpGr_rt (nm : ByteArray) (p q : Rt) : cmpGr ⟨nm, p.1, p.2⟩ ⟨nm, q.1, q.2⟩ = if cmpS p.1 q.1 ≠ 0 then cmpS p.1 q.1 else p.2 - q.2 := by
  unfold cmpGr
  rw [if_neg (by simpa using (cmpS_zero nm nm).2 rfl)]
theorem row_sorted {rl : List DRole} {l : List DGrant} {j : Nat} {o : ByteArray} : ∀ m, (rowTo rl l j o m).Pairwise fun p q => p.2 < q.2
  | 0 => by simp [rowTo]
  | m + 1 => by
    have ih := row_sorted (rl := rl) (l := l) (j := j) (o := o) m
    cases h : mayB rl l j o ((m : Int) + 1)
    · rw [row_out h]; exact ih
    · rw [row_in h, List.pairwise_append]
      refine ⟨ih, by simp, fun a ha b hb => ?_⟩
      rw [List.mem_singleton] at hb
      subst hb
      have := (row_mem.1 ha).2.2.1
      simp
      omega
theorem rows_sorted_of : ∀ (os : List ByteArray) (f : ByteArray → List Rt), os.Pairwise (fun a b => ltS a b = true) → (∀ o, (f o).Pairwise fun p q => p.2 < q.2) → (∀ o, ∀ p ∈ f o, p.1 = o) → (os.flatMap f).Pairwise fun p q => ∀ nm, cmpGr ⟨nm, p.1, p.2⟩ ⟨nm, q.1, q.2⟩ < 0
  | [], _, _, _, _ => by simp
  | o :: r, f, h, hf, hp => by
    rw [List.flatMap_cons, List.pairwise_append]
    rw [List.pairwise_cons] at h
    refine ⟨(hf o).imp_of_mem fun {p q} hpm hqm hlt nm => ?_, rows_sorted_of r f h.2 hf hp, fun p hpm q hqm nm => ?_⟩
    · rw [cmpGr_rt, hp o p hpm, hp o q hqm, if_neg (by simpa using (cmpS_zero o o).2 rfl)]
      omega
    · obtain ⟨o2, ho2, hq2⟩ := List.mem_flatMap.1 hqm
      have hlt := h.1 o2 ho2
      rw [ltS_cmp, decide_eq_true_eq] at hlt
      rw [cmpGr_rt, hp o p hpm, hp o2 q hq2, if_pos (by omega)]
      exact hlt
theorem rows_sorted {rl : List DRole} {l : List DGrant} {j : Nat} (nm : ByteArray) : (toG nm (rows rl l j)).Pairwise fun x y => cmpGr x y < 0 := by
  unfold toG
  rw [List.pairwise_map]
  unfold rows rowsTo
  rw [List.take_length]
  exact (rows_sorted_of _ _ (objs_law l).1 (fun o => row_sorted 3) (fun o p h => (row_mem.1 h).1)).imp fun h => h nm

/-- a grant whose action is one -/
abbrev GS := {x : DGrant // 1 ≤ x.fAction ∧ x.fAction ≤ 3}
instance : Inhabited GS := ⟨⟨⟨⟨#[]⟩, ⟨#[]⟩, 1⟩, by decide⟩⟩
def gsCells (x : GS) : List Value := grantE.cells x.val
def gsCmp (x y : GS) : Int := cmpGr x.val y.val
theorem gs_lt (x y : GS) : ltOf gsCmp x y = decide (cmpGr x.val y.val < 0) := rfl
theorem gs_swo : SWO (ltOf gsCmp) where
  irrefl x := by rw [gs_lt, decide_eq_false_iff_not]; exact cmpGr_irrefl _
  trans x y z h1 h2 := by
    rw [gs_lt, decide_eq_true_eq] at *
    exact cmpGr_trans h1 h2
  ntrans x y z h1 h2 := by
    rw [gs_lt, decide_eq_false_iff_not] at *
    intro h3
    have s1 := cmpGr_swap x.val y.val
    have s2 := cmpGr_swap y.val z.val
    by_cases e : cmpGr x.val y.val = 0
    · rw [(cmpGr_zero _ _).1 e] at h3
      exact h2 h3
    · exact h2 (cmpGr_trans (by omega) h3)
theorem gs_tot (x y : GS) (h1 : ltOf gsCmp x y = false) (h2 : ltOf gsCmp y x = false) : x = y := by
  rw [gs_lt, decide_eq_false_iff_not] at h1 h2
  have := cmpGr_swap x.val y.val
  exact Subtype.ext ((cmpGr_zero _ _).1 (by omega))
theorem gs_sort {d T : List GS} (hp : d.Perm T) (hT : T.Pairwise fun x y => cmpGr x.val y.val < 0) : d.mergeSort (fun x y => !ltOf gsCmp y x) = T := by
  have tr : ∀ a b c : GS, (!ltOf gsCmp b a) = true → (!ltOf gsCmp c b) = true → (!ltOf gsCmp c a) = true := fun a b c h1 h2 => by
    simp only [Bool.not_eq_true'] at *
    exact gs_swo.ntrans _ _ _ h2 h1
  have to : ∀ a b : GS, ((!ltOf gsCmp b a) || !ltOf gsCmp a b) = true := fun a b => by
    have := cmpGr_swap a.val b.val
    rw [gs_lt, gs_lt]
    simp only [Bool.or_eq_true, Bool.not_eq_true', decide_eq_false_iff_not]
    omega
  refine List.Perm.eq_of_pairwise (le := fun a b => (!ltOf gsCmp b a) = true) (fun a b _ _ h1 h2 => ?_) (List.pairwise_mergeSort tr to d) (hT.imp fun {a b} h => ?_) ((List.mergeSort_perm d _).trans hp)
  · simp only [Bool.not_eq_true'] at h1 h2
    exact gs_tot _ _ h2 h1
  · have := cmpGr_swap a.val b.val
    rw [gs_lt, Bool.not_eq_true', decide_eq_false_iff_not]
    omega
theorem gs_flat (L : List GS) : L.flatMap gsCells = (L.map Subtype.val).flatMap grantE.cells := by
  induction L with
  | nil => rfl
  | cons x r ih => rw [List.flatMap_cons, List.map_cons, List.flatMap_cons, ih]; rfl
theorem toG_ok {nm : ByteArray} {L : List Rt} (h : ∀ p ∈ L, 1 ≤ p.2 ∧ p.2 ≤ 3) : ∀ x ∈ toG nm L, 1 ≤ x.fAction ∧ x.fAction ≤ 3 := fun x hx => by
  obtain ⟨p, hp, rfl⟩ := List.mem_map.1 hx
  exact h p hp
def gsOf (L : List DGrant) (h : ∀ x ∈ L, 1 ≤ x.fAction ∧ x.fAction ≤ 3) : List GS := L.pmap Subtype.mk h
theorem gs_val (L : List DGrant) (h : ∀ x ∈ L, 1 ≤ x.fAction ∧ x.fAction ≤ 3) : (gsOf L h).map Subtype.val = L := by
  unfold gsOf
  rw [List.map_pmap]
  simp
theorem gsOf_cells (L : List DGrant) (h : ∀ x ∈ L, 1 ≤ x.fAction ∧ x.fAction ≤ 3) : (gsOf L h).flatMap gsCells = L.flatMap grantE.cells := by rw [gs_flat, gs_val]
/-- any order of the set sorts to the rows in their order -/
theorem rights_sort {rl : List DRole} {l : List DGrant} {j : Nat} {nm : ByteArray} {ps : List Rt} (hgo : ∀ x ∈ l, okG rl x = true) (hn : ps.Nodup) (hm : ∀ p, p ∈ ps ↔ p ∈ rightsT rl j l) :
    ∃ (d T : List GS), d.flatMap gsCells = (toG nm ps).flatMap grantE.cells ∧ d.length = ps.length ∧ d.mergeSort (fun x y => !ltOf gsCmp y x) = T ∧ T.flatMap gsCells = (toG nm (rows rl l j)).flatMap grantE.cells ∧ (rows rl l j).length = ps.length := by
  have hp : ps.Perm (rows rl l j) := (List.perm_ext_iff_of_nodup hn rows_nodup).2 fun p => by rw [hm, rows_mem hgo]
  have hb : ∀ p ∈ rightsT rl j l, 1 ≤ p.2 ∧ p.2 ≤ 3 := fun p hp => by
    obtain ⟨h1, x, hx, _, h3⟩ := rights_pos hp
    have := okG_action (hgo x hx)
    omega
  have h1 := toG_ok (nm := nm) (L := ps) fun p hp => hb p ((hm p).1 hp)
  have h2 := toG_ok (nm := nm) (L := rows rl l j) fun p hp => hb p ((rows_mem hgo).1 hp)
  refine ⟨gsOf _ h1, gsOf _ h2, gsOf_cells _ h1, ?_, gs_sort ?_ ?_, gsOf_cells _ h2, hp.length_eq.symm⟩
  · simp [gsOf, toG]
  · exact List.Perm.pmap _ (hp.map _)
  · have h3 := rows_sorted (rl := rl) (l := l) (j := j) nm
    rw [← gs_val _ h2, List.pairwise_map] at h3
    exact h3

noncomputable def rightsL (rl : List DRole) (l : List DGrant) (nm : ByteArray) : List DGrant := if grantsB rl l then (if fnd rl nm < 0 then [] else toG nm (rows rl l (fnd rl nm).toNat)) else []
noncomputable def rightsCode (rl : List DRole) (l : List DGrant) (nm : ByteArray) : Int := if grantsB rl l then (if fnd rl nm < 0 then 3 else 0) else 1
theorem rights_bad {rl : List DRole} {l : List DGrant} {nm : ByteArray} (h : grantsB rl l = false) : rightsL rl l nm = [] ∧ rightsCode rl l nm = 1 := by
  unfold rightsL rightsCode
  rw [h]
  exact ⟨rfl, rfl⟩
theorem rights_none {rl : List DRole} {l : List DGrant} {nm : ByteArray} (h : grantsB rl l = true) (h2 : fnd rl nm = -1) : rightsL rl l nm = [] ∧ rightsCode rl l nm = 3 := by
  unfold rightsL rightsCode
  rw [h, h2]
  exact ⟨rfl, rfl⟩
theorem rights_some {rl : List DRole} {l : List DGrant} {nm : ByteArray} {j : Nat} (h : grantsB rl l = true) (h2 : fnd rl nm = j) : rightsL rl l nm = toG nm (rows rl l j) ∧ rightsCode rl l nm = 0 := by
  unfold rightsL rightsCode
  rw [h, h2]
  have h0 : ¬ (j : Int) < 0 := by omega
  exact ⟨by rw [if_pos rfl, if_neg h0, Int.toNat_natCast], by rw [if_pos rfl, if_neg h0]⟩
end Go.Proofs.Ytepegiklnhoobaa
