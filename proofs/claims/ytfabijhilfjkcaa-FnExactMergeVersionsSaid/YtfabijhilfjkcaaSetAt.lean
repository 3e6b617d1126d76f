/- Settings found and put, as the walks see it: plain laws. Nothing here speaks of the program. -/
import Derived.Test.YtfabijhilfjkcaaMergeLaw
namespace Go.Proofs.Ytfabijhilfjkcaa
set_option linter.unusedVariables false
set_option linter.unusedSimpArgs false
set_option linter.unusedSectionVars false

theorem at_first {l : List DSetting} {s : ByteArray} {k : Nat} {x : DSetting} (hx : l[k]? = some x) (e : x.fName = s) (hlo : ∀ (j : Nat) y, j < k → l[j]? = some y → ¬ y.fName = s) : atS l s = some x := by
  unfold atS
  rw [List.find?_eq_some_iff_getElem]
  obtain ⟨hk, hxe⟩ := List.getElem?_eq_some_iff.1 hx
  refine ⟨by simpa using e, k, hk, hxe, fun j hj => ?_⟩
  have := hlo j _ hj (List.getElem?_eq_getElem (by omega))
  simpa using this
theorem at_never {l : List DSetting} {s : ByteArray} (h : ∀ (j : Nat) y, l[j]? = some y → ¬ y.fName = s) : atS l s = none := atS_none.2 fun hm => by
  obtain ⟨y, hy, e⟩ := List.mem_map.1 hm
  obtain ⟨j, hj⟩ := List.mem_iff_getElem?.1 hy
  exact h j y hj e
def NoName (l : List DSetting) (s : ByteArray) (k : Nat) : Prop := ∀ (j : Nat) (y : DSetting), j < k → l[j]? = some y → ¬ y.fName = s
theorem noName_zero (l : List DSetting) (s : ByteArray) : NoName l s 0 := fun j y h => absurd h (Nat.not_lt_zero _)
theorem noName_next {l : List DSetting} {s : ByteArray} {k : Nat} {x : DSetting} (h : NoName l s k) (hx : l[k]? = some x) (hn : ¬ x.fName = s) : NoName l s (k + 1) := fun j y hj hy => by
  rcases Nat.lt_or_ge j k with h1 | h1
  · exact h j y h1 hy
  · obtain rfl : j = k := by omega
    rw [hx] at hy
    cases hy
    exact hn
theorem noName_all {l : List DSetting} {s : ByteArray} {n : Nat} (h : NoName l s n) (hl : l.length = n) : atS l s = none := at_never fun j y hy => h j y (by have := (List.getElem?_eq_some_iff.1 hy).1; omega) hy
theorem get_none {l : List DSetting} {s : ByteArray} (h : atS l s = none) : getS l s = ⟨⟨#[]⟩, 0⟩ ∧ valS l s = -1 := by unfold getS valS; rw [h]; exact ⟨rfl, rfl⟩
theorem get_some {l : List DSetting} {s : ByteArray} {x : DSetting} (h : atS l s = some x) : getS l s = x ∧ valS l s = x.fValue := by unfold getS valS; rw [h]; exact ⟨rfl, rfl⟩
/-- what a search answers -/
def FoundAt (l : List DSetting) (nm : ByteArray) (n : Nat) (v : Int) : Prop := (v = -1 ∧ atS l nm = none) ∨ (∃ (k : Nat) (x : DSetting), v = k ∧ k < n ∧ l[k]? = some x ∧ atS l nm = some x)
/-- a setting is put: how far the walk is -/
def PutSt (l : List DSetting) (e : DSetting) (k : Nat) (dn : Bool) (o : List DSetting) : Prop :=
  (dn = false ∧ AllLt (l.take k) e ∧ o = l.take k) ∨ (dn = true ∧ ¬ AllLt (l.take k) e ∧ o = setS (l.take k) e)
theorem put_zero (l : List DSetting) (e : DSetting) : PutSt l e 0 false [] := .inl ⟨rfl, (fun x hx => absurd hx (by simp) : AllLt (l.take 0) e), rfl⟩
theorem take_asc {l : List DSetting} (h : AscS (nmS l)) (k : Nat) : AscS (nmS (l.take k)) := by
  unfold nmS AscS at *
  rw [List.map_take]
  exact List.Pairwise.sublist (List.take_sublist _ _) h
theorem put_low {l o : List DSetting} {e x : DSetting} {k : Nat} (h : PutSt l e k false o) (hx : l[k]? = some x) (hlt : Op.bytesLess x.fName.toList e.fName.toList = true) : PutSt l e (k + 1) false (o ++ [x]) ∧ x.fName ≠ e.fName := by
  rcases h with ⟨_, h1, h2⟩ | ⟨h0, _⟩
  · refine ⟨.inl ⟨rfl, ?_, ?_⟩, (bl_iff.1 hlt).2⟩
    · rw [take_snoc hx]; exact h1.snoc hlt
    · rw [take_snoc hx, h2]
  · cases h0
theorem put_hit {l o : List DSetting} {e x : DSetting} {k : Nat} (h : PutSt l e k false o) (hx : l[k]? = some x) (hlt : Op.bytesLess x.fName.toList e.fName.toList = false) : PutSt l e (k + 1) true (if x.fName = e.fName then o ++ [e] else o ++ [e] ++ [x]) := by
  rcases h with ⟨_, h1, h2⟩ | ⟨h0, _⟩
  · refine .inr ⟨rfl, ?_, ?_⟩
    · rw [take_snoc hx]; exact not_lt_snoc hlt
    · rw [take_snoc hx, setS_hit hlt h1, h2]
      split <;> simp
  · cases h0
theorem put_past {l o : List DSetting} {e x : DSetting} {k : Nat} (ha : AscS (nmS l)) (h : PutSt l e k true o) (hx : l[k]? = some x) : PutSt l e (k + 1) true (o ++ [x]) ∧ x.fName ≠ e.fName := by
  rcases h with ⟨h0, _⟩ | ⟨_, h1, h2⟩
  · cases h0
  · have h3 := setS_past (e := e) (x := x) (l := l.take k) (by have := take_asc ha (k + 1); rwa [take_snoc hx] at this) h1
    exact ⟨.inr ⟨rfl, by rw [take_snoc hx]; exact not_lt_more h1, by rw [take_snoc hx, h3.1, h2]⟩, h3.2⟩
theorem put_end {l o : List DSetting} {e : DSetting} {n : Nat} {dn : Bool} (h : PutSt l e n dn o) (hl : l.length = n) : setS l e = if dn then o else o ++ [e] := by
  unfold PutSt at h
  rw [List.take_of_length_le (by omega)] at h
  rcases h with ⟨h0, h1, h2⟩ | ⟨h0, h1, h2⟩
  · rw [h0, setS_end h1, h2]; rfl
  · rw [h0, h2]; rfl
theorem put_few {l o : List DSetting} {e : DSetting} {k : Nat} {dn : Bool} (h : PutSt l e k dn o) (hk : k ≤ l.length) : o.length ≤ k + 1 := by
  have hm : ∀ l : List DSetting, (setS l e).length ≤ l.length + 1 := fun l => by
    induction l with
    | nil => simp [setS]
    | cons y r ih =>
      unfold setS
      split
      · simp only [List.length_cons]; omega
      · split <;> simp only [List.length_cons] <;> omega
  rcases h with ⟨_, _, h2⟩ | ⟨_, _, h2⟩
  · rw [h2, List.length_take]; omega
  · have := hm (l.take k)
    rw [h2]
    rw [List.length_take] at this
    omega
theorem setS_few (l : List DSetting) (e : DSetting) : (setS l e).length ≤ l.length + 1 := by
  induction l with
  | nil => simp [setS]
  | cons y r ih =>
    unfold setS
    split
    · simp only [List.length_cons]; omega
    · split <;> simp only [List.length_cons] <;> omega
theorem setAll_few : ∀ (more l : List DSetting), (setAll l more).length ≤ l.length + more.length
  | [], l => Nat.le_refl _
  | x :: r, l => by
    have h1 := setAll_few r (setS l x)
    have h2 := setS_few l x
    show (setAll (setS l x) r).length ≤ _
    rw [List.length_cons]
    omega
theorem setS_small {e : DSetting} {M : Nat} (he : e.fName.size ≤ M) : ∀ {l : List DSetting}, (∀ x ∈ l, x.fName.size ≤ M) → ∀ x ∈ setS l e, x.fName.size ≤ M
  | [], _, x, hx => by
    rw [List.mem_singleton.1 (show x ∈ [e] from hx)]; exact he
  | y :: r, h, x, hx => by
    have ih := setS_small he (l := r) fun z hz => h z (by simp [hz])
    unfold setS at hx
    split at hx
    · rcases List.mem_cons.1 hx with h1 | h1
      · rw [h1]; exact h y (by simp)
      · exact ih x h1
    · split at hx
      · rcases List.mem_cons.1 hx with h1 | h1
        · rw [h1]; exact he
        · exact h x (by simp [h1])
      · rcases List.mem_cons.1 hx with h1 | h1
        · rw [h1]; exact he
        · exact h x h1
/-- three small states -/
structure Ok3 (base a b : List DSetting) : Prop where
  h0 : OkSt base
  h1 : OkSt a
  h2 : OkSt b
  n0 : base.length ≤ 24
  n1 : a.length ≤ 24
  n2 : b.length ≤ 24
theorem all_few (more : List DSetting) (k : Nat) : (setAll [] (more.take k)).length ≤ k := by
  have h := setAll_few (more.take k) []
  rw [List.length_take] at h
  simp only [List.length_nil] at h
  omega
theorem all_asc (more : List DSetting) : AscS (nmS (setAll [] more)) := setAll_asc (by simp [nmS, AscS])
theorem nms_get {l : List DSetting} {k : Nat} {x : DSetting} (h : l[k]? = some x) : (nmS l)[k]? = some x.fName := by unfold nmS; rw [List.getElem?_map, h]; rfl
theorem nms_len (l : List DSetting) : (nmS l).length = l.length := by simp [nmS]
theorem names3_put (base a b : List DSetting) : names3 base a b = nmS (setAll [] (base ++ a ++ b)) := by unfold names3; rw [names_put]
theorem names3_few {base a b : List DSetting} (h : Ok3 base a b) : (names3 base a b).length ≤ 72 := by
  have h1 := setAll_few (base ++ a ++ b) []
  rw [List.length_append, List.length_append] at h1
  rw [names3_put, nms_len]
  have := h.n0
  have := h.n1
  have := h.n2
  simp only [List.length_nil] at h1
  omega
theorem filt_take {α : Type} {p : α → Bool} {l : List α} {k : Nat} {x : α} (h : l[k]? = some x) : (l.take (k + 1)).filter p = if p x then (l.take k).filter p ++ [x] else (l.take k).filter p := by
  rw [take_snoc h, List.filter_append]
  cases hp : p x <;> simp [hp]
theorem filt_few {α : Type} {p : α → Bool} (l : List α) (k : Nat) : ((l.take k).filter p).length ≤ k := by
  have h := List.length_filter_le p (l.take k)
  rw [List.length_take] at h
  omega
theorem merged_few (base a b : List DSetting) (ns : List ByteArray) (k : Nat) : (merged base a b (ns.take k)).length ≤ k := by
  have h := merged_len base a b (ns.take k)
  rw [List.length_take] at h
  omega
theorem empty_iff (s : ByteArray) : (s.toList == ([] : List UInt8)) = decide (s = ⟨#[]⟩) := by
  rw [ByteArray.toList_eq]
  by_cases h : s = ⟨#[]⟩
  · subst h; rfl
  · rw [decide_eq_false h, beq_eq_false_iff_ne]
    intro e
    apply h
    cases s
    simp only [ByteArray.mk.injEq]
    exact Array.toList_inj.1 e
theorem pick_take {base a b : List DSetting} (h : Ok3 base a b) {ns : List ByteArray} {k : Nat} {s : ByteArray} (hs : ns[k]? = some s) : merged base a b (ns.take (k + 1)) = if (pick3 base a b s).fName = ⟨#[]⟩ then merged base a b (ns.take k) else merged base a b (ns.take k) ++ [pick3 base a b s] := by
  rw [merged_take hs, pick3_keep h.h0 h.h1 h.h2]
  split <;> simp
end Go.Proofs.Ytfabijhilfjkcaa
