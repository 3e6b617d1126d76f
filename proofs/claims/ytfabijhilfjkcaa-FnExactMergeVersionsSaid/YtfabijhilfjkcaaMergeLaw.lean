/- Merging states, and where versions come from: plain laws. Nothing here speaks of the program. -/
import Derived.Test.YtfabijhilfjkcaaSetLaw
namespace Go.Proofs.Ytfabijhilfjkcaa
set_option linter.unusedVariables false
set_option linter.unusedSimpArgs false
set_option linter.unusedSectionVars false

/-- a state: names in order, none empty, values from 0 on -/
structure OkSt (l : List DSetting) : Prop where
  asc : AscS (nmS l)
  val : ∀ x ∈ l, 0 ≤ x.fValue ∧ x.fName ≠ ⟨#[]⟩
theorem OkSt.nil : OkSt [] := ⟨by simp [nmS, AscS], fun x h => by cases h⟩
theorem OkSt.valS {l : List DSetting} (h : OkSt l) (s : ByteArray) : (∃ x, atS l s = some x ∧ valS l s = x.fValue ∧ getS l s = x ∧ x.fName = s ∧ 0 ≤ x.fValue) ∨ (atS l s = none ∧ valS l s = -1 ∧ getS l s = ⟨⟨#[]⟩, 0⟩) := by
  rcases hh : atS l s with _ | x
  · exact .inr ⟨rfl, by unfold Go.Proofs.Ytfabijhilfjkcaa.valS; rw [hh], by unfold getS; rw [hh]⟩
  · have := atS_some hh
    exact .inl ⟨x, rfl, by unfold Go.Proofs.Ytfabijhilfjkcaa.valS; rw [hh], by unfold getS; rw [hh], this.2, (h.val x this.1).1⟩
def eqD (a b : DSetting) : Bool := decide (a.fName = b.fName) && decide (a.fValue = b.fValue)
theorem dset_ext {a b : DSetting} (h1 : a.fName = b.fName) (h2 : a.fValue = b.fValue) : a = b := by cases a; cases b; simp only at h1 h2; rw [h1, h2]
theorem eqD_iff {a b : DSetting} : eqD a b = true ↔ a = b := by
  unfold eqD
  rw [Bool.and_eq_true, decide_eq_true_eq, decide_eq_true_eq]
  exact ⟨fun h => dset_ext h.1 h.2, fun h => by subst h; exact ⟨rfl, rfl⟩⟩
/-- settings of one name are equal as their values are -/
theorem OkSt.same {a b : List DSetting} (ha : OkSt a) (hb : OkSt b) (s : ByteArray) : eqD (getS a s) (getS b s) = decide (Go.Proofs.Ytfabijhilfjkcaa.valS a s = Go.Proofs.Ytfabijhilfjkcaa.valS b s) := by
  rcases ha.valS s with ⟨x, hx, vx, gx, nx, px⟩ | ⟨hx, vx, gx⟩ <;> rcases hb.valS s with ⟨y, hy, vy, gy, ny, py⟩ | ⟨hy, vy, gy⟩
  · rw [gx, gy, vx, vy]
    unfold eqD
    rw [nx, ny, decide_eq_true rfl, Bool.true_and]
  · rw [gx, gy, vx, vy]
    have h1 : decide (x.fValue = -1) = false := decide_eq_false (by omega)
    rw [h1, ← Bool.not_eq_true, eqD_iff]
    intro e
    have h2 := (ha.val x (atS_some hx).1).2
    rw [e] at h2
    exact h2 rfl
  · rw [gx, gy, vx, vy]
    have h1 : decide (-1 = y.fValue) = false := decide_eq_false (by omega)
    rw [h1, ← Bool.not_eq_true, eqD_iff]
    intro e
    have h2 := (hb.val y (atS_some hy).1).2
    rw [← e] at h2
    exact h2 rfl
  · rw [gx, gy, vx, vy, decide_eq_true rfl, eqD_iff]
/-- a name at which two states have turned in different ways -/
def confB (base a b : List DSetting) (s : ByteArray) : Bool := !(decide (valS a s = valS b s) || (decide (valS a s = valS base s) || decide (valS b s = valS base s)))
def names3 (base a b : List DSetting) : List ByteArray := uniqB (sortB (nmS (base ++ a ++ b)))
def conf3 (base a b : List DSetting) : List ByteArray := (names3 base a b).filter (confB base a b)
theorem confB_spec {base a b : List DSetting} (h0 : OkSt base) (ha : OkSt a) (hb : OkSt b) (s : ByteArray) : (!(eqD (getS base s) (getS a s)) && (!(eqD (getS base s) (getS b s)) && !(eqD (getS a s) (getS b s)))) = confB base a b s := by
  rw [h0.same ha, h0.same hb, ha.same hb]
  unfold confB
  rw [show decide (valS base s = valS a s) = decide (valS a s = valS base s) from decide_eq_decide.2 ⟨Eq.symm, Eq.symm⟩, show decide (valS base s = valS b s) = decide (valS b s = valS base s) from decide_eq_decide.2 ⟨Eq.symm, Eq.symm⟩]
  cases decide (valS a s = valS b s) <;> cases decide (valS a s = valS base s) <;> cases decide (valS b s = valS base s) <;> rfl
/-- what a merge keeps of a name -/
def pick3 (base a b : List DSetting) (s : ByteArray) : DSetting := if eqD (getS a s) (getS base s) = true then getS b s else getS a s
def pickV (base a b : List DSetting) (s : ByteArray) : Int := if valS a s = valS base s then valS b s else valS a s
def keepV (base a b : List DSetting) (s : ByteArray) : List DSetting := if 0 ≤ pickV base a b s then [⟨s, pickV base a b s⟩] else []
def merged (base a b : List DSetting) (ns : List ByteArray) : List DSetting := ns.flatMap (keepV base a b)
theorem merged_snoc (base a b : List DSetting) (ns : List ByteArray) (s : ByteArray) : merged base a b (ns ++ [s]) = merged base a b ns ++ keepV base a b s := by unfold merged; rw [List.flatMap_append]; simp
theorem merged_take {base a b : List DSetting} {ns : List ByteArray} {k : Nat} {s : ByteArray} (h : ns[k]? = some s) : merged base a b (ns.take (k + 1)) = merged base a b (ns.take k) ++ keepV base a b s := by rw [take_snoc h, merged_snoc]
theorem pick3_keep {base a b : List DSetting} (h0 : OkSt base) (ha : OkSt a) (hb : OkSt b) (s : ByteArray) : keepV base a b s = if (pick3 base a b s).fName = ⟨#[]⟩ then [] else [pick3 base a b s] := by
  have hp : ∀ {l : List DSetting}, OkSt l → (if 0 ≤ valS l s then [(⟨s, valS l s⟩ : DSetting)] else []) = if (getS l s).fName = ⟨#[]⟩ then [] else [getS l s] := by
    intro l hl
    rcases hl.valS s with ⟨x, hx, vx, gx, nx, px⟩ | ⟨hx, vx, gx⟩
    · rw [vx, gx, if_pos px, if_neg (hl.val x (atS_some hx).1).2]
      rw [show (⟨s, x.fValue⟩ : DSetting) = x from dset_ext nx.symm rfl]
    · rw [vx, gx, if_neg (by omega), if_pos rfl]
  unfold keepV pick3 pickV
  rw [ha.same h0]
  by_cases e : valS a s = valS base s
  · rw [if_pos e, if_pos (decide_eq_true e)]
    exact hp hb
  · rw [if_neg e, if_neg (show ¬ (decide (valS a s = valS base s) = true) by rw [decide_eq_false e]; simp)]
    exact hp ha
theorem nmS_app (a b : List DSetting) : nmS (a ++ b) = nmS a ++ nmS b := by unfold nmS; rw [List.map_append]
/-- names of the base alone keep nothing -/
theorem keep_none {base a b : List DSetting} {s : ByteArray} (h1 : s ∉ nmS (a ++ b)) : keepV base a b s = [] := by
  rw [nmS_app, List.mem_append] at h1
  have e1 : valS a s = -1 := by unfold valS; rw [atS_none.2 fun h => h1 (.inl h)]
  have e2 : valS b s = -1 := by unfold valS; rw [atS_none.2 fun h => h1 (.inr h)]
  unfold keepV pickV
  rw [e1, e2]
  split <;> rfl
theorem flat_filter {α β : Type} {f : α → List β} {p : α → Bool} : ∀ {l : List α}, (∀ x ∈ l, p x = false → f x = []) → (l.filter p).flatMap f = l.flatMap f
  | [], _ => rfl
  | x :: r, h => by
    have ih := flat_filter (f := f) (p := p) (l := r) fun y hy => h y (by simp [hy])
    rcases hx : p x with _ | _
    · rw [List.filter_cons_of_neg (by rw [hx]; simp), List.flatMap_cons, h x (by simp) hx, List.nil_append, ih]
    · rw [List.filter_cons_of_pos hx, List.flatMap_cons, List.flatMap_cons, ih]
/-- the merge over all names, or over those of the two states -/
theorem merged_two {base a b : List DSetting} : merged base a b (names3 base a b) = merged base a b (uniqB (sortB (nmS (a ++ b)))) := by
  have e : uniqB (sortB (nmS (a ++ b))) = (names3 base a b).filter fun s => (nmS (a ++ b)).any fun u => decide (u = s) := by
    refine asc_ext (names_rise _) (List.Pairwise.filter _ (names_rise _)) fun s => ?_
    rw [List.mem_filter, names_mem]
    unfold names3
    rw [names_mem, List.any_eq_true, nmS_app (base ++ a) b, nmS_app base a, nmS_app a b]
    simp only [List.mem_append, decide_eq_true_eq, exists_eq_right]
    exact ⟨fun h => ⟨by rcases h with h | h <;> simp [h], h⟩, fun h => h.2⟩
  rw [e]
  unfold merged
  exact (flat_filter fun s hs hn => keep_none fun h => by rw [List.any_eq_false] at hn; exact hn s h (decide_eq_true rfl)).symm
theorem merged_len (base a b : List DSetting) : ∀ ns : List ByteArray, (merged base a b ns).length ≤ ns.length
  | [] => Nat.le_refl _
  | s :: r => by
    have ih := merged_len base a b r
    show (keepV base a b s ++ merged base a b r).length ≤ _
    rw [List.length_append, List.length_cons]
    unfold keepV
    split <;> simp <;> omega
/-- the parents: par k is the parent of version k + 1 -/
def above (par : List Nat) : Nat → Nat → List Nat
  | 0, _ => []
  | f + 1, n => match par[n - 1]? with | some 0 => [] | some p => p :: above par f p | none => []
structure OkPar (par : List Nat) : Prop where
  le : ∀ (k : Nat) p, par[k]? = some p → p ≤ k
theorem above_fuel {par : List Nat} (h : OkPar par) : ∀ (f g n : Nat), n ≤ f → n ≤ g → 1 ≤ n → above par f n = above par g n
  | 0, _, n, h1, _, h3 => by omega
  | f + 1, 0, n, _, h2, h3 => by omega
  | f + 1, g + 1, n, h1, h2, h3 => by
    unfold above
    rcases hp : par[n - 1]? with _ | p
    · rfl
    · rcases p with _ | p
      · rfl
      · have := h.le _ _ hp
        show (p + 1) :: above par f (p + 1) = (p + 1) :: above par g (p + 1)
        rw [above_fuel h f g (p + 1) (by omega) (by omega) (by omega)]
def aboveN (par : List Nat) (n : Nat) : List Nat := above par n n
theorem above_end {par : List Nat} {n : Nat} (hn : 1 ≤ n) (hp : par[n - 1]? = some 0) : aboveN par n = [] := by
  obtain ⟨m, rfl⟩ : ∃ m, n = m + 1 := ⟨n - 1, by omega⟩
  unfold aboveN above
  rw [hp]
  rfl
theorem above_step {par : List Nat} (h : OkPar par) {n p : Nat} (hn : 1 ≤ n) (hp : par[n - 1]? = some p) (h0 : 1 ≤ p) : aboveN par n = p :: aboveN par p := by
  obtain ⟨m, rfl⟩ : ∃ m, n = m + 1 := ⟨n - 1, by omega⟩
  obtain ⟨q, rfl⟩ : ∃ q, p = q + 1 := ⟨p - 1, by omega⟩
  have := h.le _ _ hp
  unfold aboveN
  conv => lhs; unfold above
  rw [hp]
  show (q + 1) :: above par m (q + 1) = _
  rw [above_fuel h m (q + 1) (q + 1) (by omega) (by omega) (by omega)]
theorem above_mem {par : List Nat} (h : OkPar par) : ∀ (n : Nat), 1 ≤ n → n ≤ par.length → ∀ q ∈ aboveN par n, 1 ≤ q ∧ q < n := by
  intro n
  induction n using Nat.strongRecOn with
  | _ n ih =>
    intro h1 h2 q hq
    obtain ⟨p, hp⟩ : ∃ p, par[n - 1]? = some p := ⟨_, List.getElem?_eq_getElem (by omega)⟩
    have hle := h.le _ _ hp
    rcases Nat.eq_zero_or_pos p with h0 | h0
    · subst h0
      rw [above_end h1 hp] at hq
      cases hq
    · rw [above_step h h1 hp h0] at hq
      rcases List.mem_cons.1 hq with e | e
      · omega
      · have := ih p (by omega) h0 (by omega) q e
        omega
theorem above_len {par : List Nat} (h : OkPar par) : ∀ (n : Nat), 1 ≤ n → n ≤ par.length → (aboveN par n).length < n := by
  intro n
  induction n using Nat.strongRecOn with
  | _ n ih =>
    intro h1 h2
    obtain ⟨p, hp⟩ : ∃ p, par[n - 1]? = some p := ⟨_, List.getElem?_eq_getElem (by omega)⟩
    have hle := h.le _ _ hp
    rcases Nat.eq_zero_or_pos p with h0 | h0
    · subst h0
      rw [above_end h1 hp]
      exact h1
    · rw [above_step h h1 hp h0, List.length_cons]
      have := ih p (by omega) h0 (by omega)
      omega
/-- the first of the one's own line that lies in the other's -/
def firstIn (one two : List Nat) : Nat := ((one.filter fun q => decide (q ∈ two)).head?).getD 0
theorem firstIn_hit {one two : List Nat} {k q : Nat} (hq : one[k]? = some q) (h : ∀ (j : Nat) p, j < k → one[j]? = some p → p ∉ two) (hm : q ∈ two) : firstIn one two = q := by
  have hk := (List.getElem?_eq_some_iff.1 hq).1
  have e : one = one.take k ++ (q :: one.drop (k + 1)) := by
    rw [← (List.getElem?_eq_some_iff.1 hq).2, ← List.drop_eq_getElem_cons hk, List.take_append_drop]
  unfold firstIn
  rw [e, List.filter_append]
  have h0 : (one.take k).filter (fun q => decide (q ∈ two)) = [] := by
    rw [List.filter_eq_nil_iff]
    intro p hp
    obtain ⟨j, hj⟩ := List.mem_iff_getElem?.1 hp
    have hjl := (List.getElem?_eq_some_iff.1 hj).1
    rw [List.length_take] at hjl
    rw [List.getElem?_take, if_pos (by omega)] at hj
    simpa using h j p (by omega) hj
  rw [h0, List.nil_append, List.filter_cons_of_pos (by simpa using hm)]
  rfl
theorem firstIn_none {one two : List Nat} (h : ∀ p ∈ one, p ∉ two) : firstIn one two = 0 := by
  unfold firstIn
  rw [List.filter_eq_nil_iff.2 fun p hp => by simpa using h p hp]
  rfl
theorem firstIn_congr {one two two' : List Nat} (h : ∀ q, q ∈ two ↔ q ∈ two') : firstIn one two = firstIn one two' := by
  unfold firstIn
  rw [show (fun q => decide (q ∈ two)) = fun q => decide (q ∈ two') by funext q; exact decide_eq_decide.2 (h q)]
def commonN (par : List Nat) (a b : Nat) : Nat := firstIn (a :: aboveN par a) (b :: aboveN par b)
theorem firstIn_le {one two : List Nat} {n : Nat} (h : ∀ p ∈ one, p ≤ n) : firstIn one two ≤ n := by
  unfold firstIn
  rcases hh : (one.filter fun q => decide (q ∈ two)).head? with _ | q
  · exact Nat.zero_le _
  · have : q ∈ one.filter fun q => decide (q ∈ two) := List.mem_of_mem_head? hh
    exact h q (List.mem_filter.1 this).1
end Go.Proofs.Ytfabijhilfjkcaa
