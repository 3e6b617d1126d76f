/- A loop over the set of rights: what has been met so far. -/
import Derived.Test.YtepegiklnhoobaaRows
import Derived.Test.YtepegiklnhoobaaMapR
import Derived.Test.YtepegiklnhoobaaMayLaw
import Derived.Test.YtepegiklnhoobaaMayI
import Derived.Maps.RangeWalk
namespace Go.Proofs.Ytepegiklnhoobaa
set_option linter.unusedVariables false
set_option linter.unusedSimpArgs false
set_option linter.unusedSectionVars false
open Go.RowKit Go.Maps
set_option maxRecDepth 100000

set_option maxRecDepth 100000 in
theorem rt_inv {key : Value} {kl : Lit} (h : keyOf Try.prog 89 key = some kl) : ∃ p : Rt, key = rtV p ∧ okRt p ∧ kl = keyRt p := by
  have c1 : Try.prog.cellsOf 9 = 1 := by kernel_rfl
  have c2 : Try.prog.cellsOf 2 = 1 := by kernel_rfl
  have hk : Try.prog.keyType 89 = true := Try.rDeep
  obtain ⟨m, hm⟩ : ∃ m, Try.prog.types.size = m + 1 := ⟨Try.prog.types.size - 1, (Nat.succ_pred_eq_of_pos (Nat.lt_of_le_of_lt (Nat.zero_le _) Try.rRow)).symm⟩
  have h0 := h
  unfold keyOf at h
  simp only [Try.underlying89, hk, Bool.true_and] at h
  split at h
  · next hf =>
    cases key <;> simp [Value.formed, Try.underlying89] at hf
    rename_i cs
    rw [Try.rCells] at hf
    rw [hm] at h
    obtain ⟨ls, hls, _⟩ := Option.map_eq_some_iff.1 h
    obtain ⟨u, v, rfl⟩ : ∃ u v, cs = #[u, v] := by
      obtain ⟨cl⟩ := cs
      match cl, hf with
      | [u, v], _ => exact ⟨u, v, rfl⟩
    simp [Program.keyLits, Try.underlying89, Try.underlying9, Try.underlying2, Try.rCells, c1, c2, Value.cells] at hls
    cases u <;> simp at hls
    rename_i s
    by_cases hs : s.size ≤ maxLen
    · cases v <;> simp [hs] at hls
      rename_i q n
      by_cases hw : q = .i64 ∧ (Lit.int .i64 n).wf = true
      · obtain ⟨rfl, hw⟩ := hw
        refine ⟨(s, n), rfl, ⟨hs, hw⟩, ?_⟩
        have h1 := keyRt_of (p := (s, n)) ⟨hs, hw⟩
        exact Option.some.inj (h0.symm.trans h1)
      · simp [hw] at hls
    · simp [hs] at hls
  · cases h
theorem plainBool_inv {H : Type} {P : Program} {e : TypeId} (he : P.underlying e = some .bool) (v : Value) (y : DataW H × List MemPlace) (h : plainElem P e v = some y) : ∃ b : Bool, v = .bool b := by
  unfold plainElem at h
  rw [he] at h
  cases v <;> simp at h
  exact ⟨_, rfl⟩
set_option maxRecDepth 100000 in
theorem has_rt {L : List Rt} {p : Rt} (hL : ∀ q ∈ L, okRt q) (hp : okRt p) : has (setOf (H := Unit) (.lit (.bool true)) (L.map keyRt)) (keyRt p) = true ↔ p ∈ L := by
  rw [has_setOf _ _ _ (fun x hx => by
    obtain ⟨q, hq, rfl⟩ := List.mem_map.1 hx
    exact keyRt_lit (hL q hq))]
  exact key_mem hL hp

/-- the rights met so far -/
def MetR (L : List Rt) (left : Lit → Bool) (ps : List Rt) : Prop := ps.Nodup ∧ (∀ p ∈ ps, p ∈ L) ∧ ∀ p, okRt p → (left (keyRt p) = true ↔ p ∈ L ∧ p ∉ ps)
theorem MetR.start {L : List Rt} (hL : ∀ q ∈ L, okRt q) : MetR L (has (setOf (H := Unit) (.lit (.bool true)) (L.map keyRt))) [] :=
  ⟨by simp, fun p h => (by cases h), fun p hp => by rw [has_rt hL hp]; simp⟩
theorem MetR.step {L : List Rt} {left : Lit → Bool} {ps : List Rt} {x : Rt} (hL : ∀ q ∈ L, okRt q) (h : MetR L left ps) (hx : okRt x) (hl : left (keyRt x) = true) : MetR L (fun z => left z && !z.sameKey (keyRt x)) (ps ++ [x]) := by
  obtain ⟨h1, h2⟩ := (h.2.2 x hx).1 hl
  refine ⟨?_, fun p hp => ?_, fun p hp => ?_⟩
  · rw [List.nodup_append]
    refine ⟨h.1, by simp, fun a ha b hb e => ?_⟩
    rw [List.mem_singleton] at hb
    subst hb
    subst e
    exact h2 ha
  · rcases List.mem_append.1 hp with hp | hp
    · exact h.2.1 p hp
    · rw [List.mem_singleton.1 hp]; exact h1
  · have hs : (keyRt p).sameKey (keyRt x) = true ↔ p = x := ⟨fun e => keyRt_inj hp hx (WideAt.sameKey_eq e), fun e => by rw [e]; exact WideAt.sameKey_self (keyRt_lit hx)⟩
    rw [Bool.and_eq_true, Bool.not_eq_true', h.2.2 p hp]
    constructor
    · rintro ⟨⟨a, b⟩, c⟩
      refine ⟨a, fun hm => ?_⟩
      rcases List.mem_append.1 hm with hm | hm
      · exact b hm
      · rw [hs.2 (List.mem_singleton.1 hm)] at c
        cases c
    · rintro ⟨a, b⟩
      refine ⟨⟨a, fun hm => b (by simp [hm])⟩, ?_⟩
      rw [Bool.eq_false_iff]
      intro hc
      exact b (by simp [hs.1 hc])
theorem MetR.done {L : List Rt} {left : Lit → Bool} {ps : List Rt} (hL : ∀ q ∈ L, okRt q) (h : MetR L left ps) (hl : ∀ kl, left kl = false) : ∀ p, p ∈ ps ↔ p ∈ L := fun p => by
  refine ⟨h.2.1 p, fun hp => ?_⟩
  by_cases hc : p ∈ ps
  · exact hc
  · have := (h.2.2 p (hL p hp)).2 ⟨hp, hc⟩
    rw [hl] at this
    cases this
theorem rightsT_len {rl : List DRole} {a : Nat} : ∀ {l : List DGrant}, (∀ x ∈ l, okG rl x = true) → (rightsT rl a l).length ≤ 3 * l.length
  | [], _ => by simp [rightsT]
  | x :: r, h => by
    have ih := rightsT_len (rl := rl) (a := a) (l := r) fun y hy => h y (by simp [hy])
    obtain ⟨_, h1, h2, _⟩ := okG_object (h x (by simp))
    unfold rightsT at ih ⊢
    rw [List.flatMap_cons, List.length_append, List.length_cons]
    have : (if holdsR rl a x.fRole then actsOf x x.fAction.toNat else []).length ≤ 3 := by
      split
      · unfold actsOf; simp; omega
      · simp
    omega
theorem MetR.len {L : List Rt} {left : Lit → Bool} {ps : List Rt} (h : MetR L left ps) : ps.length ≤ L.length := by
  have : ∀ (a b : List Rt), a.Nodup → (∀ x ∈ a, x ∈ b) → a.length ≤ b.length := by
    intro a
    induction a with
    | nil => intro b _ _; exact Nat.zero_le _
    | cons x r ih =>
      intro b hn hs
      obtain ⟨h1, h2⟩ := List.nodup_cons.1 hn
      obtain ⟨s, t, rfl⟩ := List.append_of_mem (hs x (by simp))
      have := ih (s ++ t) h2 fun y hy => by
        have h3 := hs y (by simp [hy])
        simp only [List.mem_append, List.mem_cons] at h3 ⊢
        rcases h3 with h3 | rfl | h3
        · exact .inl h3
        · exact absurd hy h1
        · exact .inr h3
      simp only [List.length_append, List.length_cons] at this ⊢
      omega
  exact this _ _ h.1 h.2.1
end Go.Proofs.Ytepegiklnhoobaa
