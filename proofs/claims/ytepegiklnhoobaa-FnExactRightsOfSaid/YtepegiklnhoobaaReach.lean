/- Roles under one another, in plain words: which roles lie under one, found by passes over marks or by a list of work. Nothing here speaks of the program. -/
import Derived.Lib.Hide
namespace Go.Proofs.Ytepegiklnhoobaa
set_option linter.unusedVariables false
set_option linter.unusedSimpArgs false
set_option linter.unusedSectionVars false

structure DRole where
  name : ByteArray
  under : List ByteArray

/-- the place of a role, or -1 -/
def fnd (l : List DRole) (nm : ByteArray) : Int := match l.findIdx? fun x => decide (x.name = nm) with
  | some i => (i : Int)
  | none => -1
theorem fnd_at {l : List DRole} {nm : ByteArray} {k : Nat} {x : DRole} (hx : l[k]? = some x) (he : x.name = nm) (hf : ∀ (j : Nat) (y : DRole), j < k → l[j]? = some y → ¬ y.name = nm) : fnd l nm = k := by
  obtain ⟨hk, hk2⟩ := List.getElem?_eq_some_iff.1 hx
  have : l.findIdx? (fun x => decide (x.name = nm)) = some k := by
    rw [List.findIdx?_eq_some_iff_getElem]
    refine ⟨hk, by rw [hk2]; simpa using he, fun j hj => ?_⟩
    have := hf j _ hj (List.getElem?_eq_getElem (by omega))
    simpa using this
  unfold fnd
  rw [this]
theorem fnd_none {l : List DRole} {nm : ByteArray} (hf : ∀ (j : Nat) (y : DRole), l[j]? = some y → ¬ y.name = nm) : fnd l nm = -1 := by
  have : l.findIdx? (fun x => decide (x.name = nm)) = none := by
    rw [List.findIdx?_eq_none_iff]
    intro x hx
    obtain ⟨j, hj⟩ := List.mem_iff_getElem?.1 hx
    simpa using hf j x hj
  unfold fnd
  rw [this]
theorem fnd_cases (l : List DRole) (nm : ByteArray) : (fnd l nm = -1 ∧ ∀ (j : Nat) (y : DRole), l[j]? = some y → ¬ y.name = nm) ∨ ∃ (k : Nat) (x : DRole), fnd l nm = k ∧ l[k]? = some x ∧ x.name = nm := by
  cases h : l.findIdx? (fun x => decide (x.name = nm)) with
  | none =>
    have h' := List.findIdx?_eq_none_iff.1 h
    refine .inl ⟨by unfold fnd; rw [h], fun j y hy => ?_⟩
    have := h' y (List.mem_of_getElem? hy)
    simpa using this
  | some k =>
    obtain ⟨hk, hp, _⟩ := List.findIdx?_eq_some_iff_getElem.1 h
    exact .inr ⟨k, l[k], by unfold fnd; rw [h], List.getElem?_eq_getElem hk, by simpa using hp⟩
theorem fnd_some {l : List DRole} {nm : ByteArray} {k : Nat} (h : fnd l nm = k) : ∃ x, l[k]? = some x ∧ x.name = nm := by
  rcases fnd_cases l nm with ⟨h1, _⟩ | ⟨k', x, h1, hx, he⟩
  · omega
  · obtain rfl : k = k' := by omega
    exact ⟨x, hx, he⟩
theorem fnd_lt {l : List DRole} {nm : ByteArray} {k : Nat} (h : fnd l nm = k) : k < l.length := by
  obtain ⟨x, hx, _⟩ := fnd_some h
  exact (List.getElem?_eq_some_iff.1 hx).1

/-- each role's name comes once -/
def NameInj (l : List DRole) : Prop := ∀ (i j : Nat) (x y : DRole), l[i]? = some x → l[j]? = some y → x.name = y.name → i = j
/-- each name under a role is a role's -/
def UnderIn (l : List DRole) : Prop := ∀ (i : Nat) (x : DRole), l[i]? = some x → ∀ u ∈ x.under, ∃ j : Nat, fnd l u = j
theorem fnd_self {l : List DRole} (hi : NameInj l) {k : Nat} {x : DRole} (hx : l[k]? = some x) : fnd l x.name = k :=
  fnd_at hx rfl fun j y hj hy e => absurd (hi j k y x hy hx e) (by omega)

def Edge (l : List DRole) (i j : Nat) : Prop := ∃ x u, l[i]? = some x ∧ u ∈ x.under ∧ fnd l u = (j : Int)
inductive Reach (l : List DRole) (at_ : Nat) : Nat → Prop where
  | one {j : Nat} : Edge l at_ j → Reach l at_ j
  | more {i j : Nat} : Reach l at_ i → Edge l i j → Reach l at_ j
theorem Edge.lt {l : List DRole} {i j : Nat} (h : Edge l i j) : j < l.length := by
  obtain ⟨x, u, _, _, h⟩ := h
  exact fnd_lt h
theorem Reach.lt {l : List DRole} {a j : Nat} (h : Reach l a j) : j < l.length := by
  cases h with
  | one h => exact h.lt
  | more _ h => exact h.lt

open Classical in
noncomputable def UndB (l : List DRole) (a : Nat) : List Bool := (List.range l.length).map fun j => decide (Reach l a j)
theorem UndB_len (l : List DRole) (a : Nat) : (UndB l a).length = l.length := by simp [UndB]
theorem UndB_get {l : List DRole} {a j : Nat} (h : j < l.length) : (UndB l a)[j]? = some true ↔ Reach l a j := by
  unfold UndB
  rw [List.getElem?_map, List.getElem?_range h]
  simp
theorem UndB_not {l : List DRole} {a j : Nat} (h : j < l.length) : (UndB l a)[j]? = some false ↔ ¬ Reach l a j := by
  unfold UndB
  rw [List.getElem?_map, List.getElem?_range h]
  simp

theorem count_mono : ∀ (o0 o : List Bool), o0.length = o.length → (∀ j : Nat, o0[j]? = some true → o[j]? = some true) → o0.count true ≤ o.count true ∧ (o0.count true = o.count true → o0 = o)
  | [], [], _, _ => ⟨Nat.le_refl _, fun _ => rfl⟩
  | [], _ :: _, h, _ => by simp at h
  | _ :: _, [], h, _ => by simp at h
  | a :: r, b :: s, h, hm => by
    obtain ⟨h1, h2⟩ := count_mono r s (by simpa using h) fun j hj => by have := hm (j + 1); simpa using this (by simpa using hj)
    have h0 := hm 0
    simp only [List.getElem?_cons_zero, Option.some.injEq] at h0
    have ct : ∀ l : List Bool, (true :: l).count true = l.count true + 1 := fun l => by simp
    have cf : ∀ l : List Bool, (false :: l).count true = l.count true := fun l => by simp
    cases a <;> cases b
    · rw [cf, cf]
      exact ⟨by omega, fun e => by rw [h2 (by omega)]⟩
    · rw [cf, ct]
      exact ⟨by omega, fun e => by omega⟩
    · exact absurd (h0 rfl) (by simp)
    · rw [ct, ct]
      exact ⟨by omega, fun e => by rw [h2 (by omega)]⟩
theorem count_full : ∀ (o : List Bool), o.length ≤ o.count true → ∀ j : Nat, j < o.length → o[j]? = some true
  | [], _, j, hj => by simp at hj
  | b :: s, h, j, hj => by
    have hc := List.count_le_length (a := true) (l := s)
    cases b
    · simp only [List.length_cons, List.count_cons] at h
      simp at h
      omega
    · have h' : s.length ≤ s.count true := by simpa [List.count_cons] using h
      cases j with
      | zero => rfl
      | succ j => simpa using count_full s h' j (by simpa using hj)

/-- one pass over all roles: from the marks o0 to the marks o, the roles below i done -/
structure Pass (l : List DRole) (a : Nat) (o0 o : List Bool) (i : Nat) : Prop where
  len0 : o0.length = l.length
  len : o.length = l.length
  sound : ∀ j : Nat, o[j]? = some true → Reach l a j
  mono : ∀ j : Nat, o0[j]? = some true → o[j]? = some true
  kids : ∀ i' j : Nat, i' < i → (i' = a ∨ o0[i']? = some true) → Edge l i' j → o[j]? = some true
/-- between passes -/
structure Marks (l : List DRole) (a : Nat) (o : List Bool) (t : Nat) : Prop where
  len : o.length = l.length
  sound : ∀ j : Nat, o[j]? = some true → Reach l a j
  full : (∀ j, Reach l a j → o[j]? = some true) ∨ t ≤ o.count true
theorem Marks.zero (l : List DRole) (a n : Nat) (h : l.length = n) : Marks l a (List.replicate n false) 0 where
  len := by simp [h]
  sound := fun j h => by
    rw [List.getElem?_replicate] at h
    split at h <;> simp at h
  full := .inr (Nat.zero_le _)
theorem Marks.pass {l : List DRole} {a t : Nat} {o : List Bool} (h : Marks l a o t) : Pass l a o o 0 := ⟨h.len, h.len, h.sound, fun _ h => h, fun _ _ h => absurd h (Nat.not_lt_zero _)⟩
theorem set_true {o : List Bool} {j k : Nat} : (o.set j true)[k]? = some true ↔ (j = k ∧ j < o.length) ∨ o[k]? = some true := by
  rw [List.getElem?_set]
  by_cases e : j = k
  · subst e
    by_cases h : j < o.length
    · simp [h]
    · simp [h]
  · simp [e]
theorem Pass.mark {l : List DRole} {a i j : Nat} {o0 o : List Bool} (h : Pass l a o0 o i) (hi : i = a ∨ o[i]? = some true) (he : Edge l i j) : Pass l a o0 (o.set j true) i where
  len0 := h.len0
  len := by simp [h.len]
  sound := fun k hk => by
    rcases set_true.1 hk with ⟨rfl, _⟩ | hk
    · rcases hi with rfl | hi
      · exact .one he
      · exact .more (h.sound i hi) he
    · exact h.sound k hk
  mono := fun k hk => set_true.2 (.inr (h.mono k hk))
  kids := fun i' k h1 h2 h3 => set_true.2 (.inr (h.kids i' k h1 h2 h3))
theorem Pass.skip {l : List DRole} {a i : Nat} {o0 o : List Bool} (h : Pass l a o0 o i) (hi : ¬ i = a) (ho : o[i]? = some false) : Pass l a o0 o (i + 1) where
  len0 := h.len0
  len := h.len
  sound := h.sound
  mono := h.mono
  kids := fun i' k h1 h2 h3 => by
    rcases Nat.lt_or_ge i' i with h4 | h4
    · exact h.kids i' k h4 h2 h3
    · obtain rfl : i' = i := by omega
      rcases h2 with h2 | h2
      · exact absurd h2 hi
      · rw [h.mono _ h2] at ho; cases ho
theorem Pass.next {l : List DRole} {a i : Nat} {o0 o : List Bool} (h : Pass l a o0 o i) (hk : ∀ j, Edge l i j → o[j]? = some true) : Pass l a o0 o (i + 1) where
  len0 := h.len0
  len := h.len
  sound := h.sound
  mono := h.mono
  kids := fun i' k h1 h2 h3 => by
    rcases Nat.lt_or_ge i' i with h4 | h4
    · exact h.kids i' k h4 h2 h3
    · obtain rfl : i' = i := by omega
      exact hk k h3
theorem Pass.over {l : List DRole} {a t i : Nat} {o0 o : List Bool} (h : Pass l a o0 o i) (hi : l.length ≤ i) (hm : Marks l a o0 t) : Marks l a o (t + 1) where
  len := h.len
  sound := h.sound
  full := by
    rcases hm.full with hf | ht
    · exact .inl fun j hj => h.mono j (hf j hj)
    · obtain ⟨h1, h2⟩ := count_mono o0 o (by rw [h.len0, h.len]) h.mono
      by_cases e : o0.count true = o.count true
      · obtain rfl := h2 e
        refine .inl fun j hj => ?_
        induction hj with
        | one he =>
          obtain ⟨x, u, hx, hu, hf⟩ := he
          have hlt := (List.getElem?_eq_some_iff.1 hx).1
          exact h.kids _ _ (by omega) (.inl rfl) ⟨x, u, hx, hu, hf⟩
        | more _ he ih =>
          obtain ⟨x, u, hx, hu, hf⟩ := he
          have hlt := (List.getElem?_eq_some_iff.1 hx).1
          exact h.kids _ _ (by omega) (.inr ih) ⟨x, u, hx, hu, hf⟩
      · exact .inr (by omega)
theorem Marks.und {l : List DRole} {a t : Nat} {o : List Bool} (h : Marks l a o t) (ht : l.length ≤ t) : o = UndB l a := by
  have hf : ∀ j, Reach l a j → o[j]? = some true := by
    rcases h.full with hf | hc
    · exact hf
    · exact fun j hj => count_full o (by rw [h.len]; omega) j (by rw [h.len]; exact hj.lt)
  apply List.ext_getElem?
  intro j
  by_cases hj : j < l.length
  · obtain ⟨b, hb⟩ : ∃ b, o[j]? = some b := ⟨_, List.getElem?_eq_getElem (by rw [h.len]; exact hj)⟩
    rw [hb]
    cases b with
    | true => exact ((UndB_get hj).2 (h.sound j hb)).symm
    | false => exact ((UndB_not hj).2 fun hr => by rw [hf j hr] at hb; cases hb).symm
  · rw [List.getElem?_eq_none (by rw [h.len]; omega), List.getElem?_eq_none (by rw [UndB_len]; omega)]

def isIn (names : List ByteArray) (u : ByteArray) : Bool := names.any fun v => decide (v = u)
theorem isIn_true {names : List ByteArray} {u : ByteArray} : isIn names u = true ↔ u ∈ names := by
  unfold isIn
  rw [List.any_eq_true]
  constructor
  · rintro ⟨v, hv, e⟩
    rw [decide_eq_true_eq] at e
    exact e ▸ hv
  · exact fun h => ⟨u, h, by simp⟩
def uns (l : List DRole) (names : List ByteArray) : Nat := l.countP fun x => !(isIn names x.name)
/-- the search by a list of work: names found, and those whose own are still to be looked at -/
structure Bfs (l : List DRole) (a : Nat) (names : List ByteArray) (pend : ByteArray → Prop) : Prop where
  sound : ∀ u ∈ names, ∃ j : Nat, fnd l u = j ∧ Reach l a j
  kids : ∀ (i : Nat) (x : DRole), l[i]? = some x → (i = a ∨ x.name ∈ names) → pend x.name ∨ ∀ u ∈ x.under, u ∈ names
  bound : names.length + uns l names ≤ l.length
theorem Bfs.start {l : List DRole} {a : Nat} {nm : ByteArray} (ha : fnd l nm = a) : Bfs l a [] (· ∈ [nm]) where
  sound := fun u h => by cases h
  kids := fun i x hx h => by
    rcases h with rfl | h
    · obtain ⟨y, hy, he⟩ := fnd_some ha
      rw [hy] at hx
      cases hx
      exact .inl (by simp [he])
    · cases h
  bound := by
    have : uns l [] ≤ l.length := List.countP_le_length
    simpa using this
theorem uns_lt {l : List DRole} {names : List ByteArray} {c : ByteArray} {j : Nat} (hc : c ∉ names) (hj : fnd l c = j) : uns l (names ++ [c]) < uns l names := by
  obtain ⟨x, hx, he⟩ := fnd_some hj
  have hm := List.mem_of_getElem? hx
  clear hx hj
  unfold uns
  induction l with
  | nil => cases hm
  | cons y r ih =>
    have hle : ∀ r : List DRole, r.countP (fun x => !(isIn (names ++ [c]) x.name)) ≤ r.countP (fun x => !(isIn names x.name)) := fun r => List.countP_mono_left fun z _ hz => by
      rw [Bool.not_eq_true', ← Bool.not_eq_true, isIn_true] at hz ⊢
      exact fun h => hz (List.mem_append_left _ h)
    rw [List.countP_cons, List.countP_cons]
    rcases List.mem_cons.1 hm with rfl | hm
    · have := hle r
      have h1 : isIn names x.name = false := by rw [← Bool.not_eq_true, isIn_true, he]; exact hc
      have h2 : isIn (names ++ [c]) x.name = true := by rw [isIn_true, he]; simp
      rw [h1, h2]
      simp
      omega
    · have := ih hm
      rcases h : isIn (names ++ [c]) y.name with _ | _
      · have h' : isIn names y.name = false := by
          rw [← Bool.not_eq_true, isIn_true] at h ⊢
          exact fun h' => h (List.mem_append_left _ h')
        rw [h']
        simp
        omega
      · simp
        omega
theorem Bfs.push {l : List DRole} {a i : Nat} {x : DRole} {names : List ByteArray} {pend : ByteArray → Prop} {c : ByteArray} (h : Bfs l a names pend) (hi : NameInj l) (hx : l[i]? = some x) (hin : i = a ∨ x.name ∈ names) (hc : c ∈ x.under) (hn : c ∉ names) {j : Nat} (hj : fnd l c = j) :
    Bfs l a (names ++ [c]) (fun u => pend u ∨ u = c) where
  sound := fun u hu => by
    rcases List.mem_append.1 hu with hu | hu
    · exact h.sound u hu
    · rw [List.mem_singleton] at hu
      subst hu
      refine ⟨j, hj, ?_⟩
      rcases hin with rfl | hin
      · exact .one ⟨x, u, hx, hc, hj⟩
      · obtain ⟨i', h1, h2⟩ := h.sound _ hin
        have h3 := fnd_self hi hx
        obtain rfl : i' = i := by omega
        exact .more h2 ⟨x, u, hx, hc, hj⟩
  kids := fun i' y hy hin' => by
    rcases hin' with e | hin'
    · rcases h.kids i' y hy (.inl e) with h1 | h1
      · exact .inl (.inl h1)
      · exact .inr fun u hu => List.mem_append_left _ (h1 u hu)
    · rcases List.mem_append.1 hin' with h2 | h2
      · rcases h.kids i' y hy (.inr h2) with h1 | h1
        · exact .inl (.inl h1)
        · exact .inr fun u hu => List.mem_append_left _ (h1 u hu)
      · exact .inl (.inr (by simpa using h2))
  bound := by
    have h1 := uns_lt hn hj
    have h2 := h.bound
    rw [List.length_append]
    simp only [List.length_singleton]
    omega
theorem Bfs.weaken {l : List DRole} {a : Nat} {names : List ByteArray} {p q : ByteArray → Prop} (h : Bfs l a names p) (hpq : ∀ u, p u → q u) : Bfs l a names q :=
  ⟨h.sound, fun i x hx hi => (h.kids i x hx hi).imp (hpq _) id, h.bound⟩
/-- one role's own are all looked at -/
theorem Bfs.drop {l : List DRole} {a i : Nat} {x : DRole} {names : List ByteArray} {p q : ByteArray → Prop} (h : Bfs l a names p) (hi : NameInj l) (hx : l[i]? = some x) (hpq : ∀ u, p u → q u ∨ u = x.name) (hk : ∀ u ∈ x.under, u ∈ names) : Bfs l a names q where
  sound := h.sound
  kids := fun i' y hy hin => by
    rcases h.kids i' y hy hin with h1 | h1
    · rcases hpq _ h1 with h2 | h2
      · exact .inl h2
      · obtain rfl : i' = i := hi i' i y x hy hx h2
        rw [hx] at hy
        cases hy
        exact .inr hk
    · exact .inr h1
  bound := h.bound
theorem Bfs.over {l : List DRole} {a : Nat} {names : List ByteArray} {p : ByteArray → Prop} (h : Bfs l a names p) (hi : NameInj l) (hp : ∀ u, ¬ p u) {j : Nat} {y : DRole} (hy : l[j]? = some y) : y.name ∈ names ↔ Reach l a j := by
  refine ⟨fun hm => ?_, fun hr => ?_⟩
  · obtain ⟨j', h1, h2⟩ := h.sound _ hm
    have := fnd_self hi hy
    obtain rfl : j' = j := by omega
    exact h2
  · have key : ∀ j, Reach l a j → ∀ y, l[j]? = some y → y.name ∈ names := by
      intro j hr
      induction hr with
      | one he =>
        intro y hy
        obtain ⟨x, u, hx, hu, hf⟩ := he
        obtain ⟨z, hz, hzn⟩ := fnd_some hf
        rw [hz] at hy
        cases hy
        rcases h.kids _ x hx (.inl rfl) with h1 | h1
        · exact absurd h1 (hp _)
        · rw [hzn]; exact h1 u hu
      | more _ he ih =>
        intro y hy
        obtain ⟨x, u, hx, hu, hf⟩ := he
        obtain ⟨z, hz, hzn⟩ := fnd_some hf
        rw [hz] at hy
        cases hy
        rcases h.kids _ x hx (.inr (ih x hx)) with h1 | h1
        · exact absurd h1 (hp _)
        · rw [hzn]; exact h1 u hu
    exact key j hr y hy
theorem Bfs.all {l : List DRole} {a : Nat} {names : List ByteArray} {p : ByteArray → Prop} (h : Bfs l a names p) {u : ByteArray} (hu : u ∈ names) : ∃ (j : Nat) (x : DRole), fnd l u = j ∧ l[j]? = some x ∧ x.name = u := by
  obtain ⟨j, hj, _⟩ := h.sound u hu
  obtain ⟨x, hx, he⟩ := fnd_some hj
  exact ⟨j, x, hj, hx, he⟩

/-- the names of the roles that are marked -/
def undTo (l : List DRole) (o : List Bool) : Nat → List ByteArray
  | 0 => []
  | k + 1 => undTo l o k ++ (match l[k]?, o[k]? with
    | some x, some true => [x.name]
    | _, _ => [])
noncomputable def undN (l : List DRole) (a : Nat) : List ByteArray := undTo l (UndB l a) l.length
theorem undTo_in {l : List DRole} {o : List Bool} {k : Nat} {x : DRole} (hx : l[k]? = some x) (h : o[k]? = some true) : undTo l o (k + 1) = undTo l o k ++ [x.name] := by rw [undTo, hx, h]
theorem undTo_out {l : List DRole} {o : List Bool} {k : Nat} (h : o[k]? = some false) : undTo l o (k + 1) = undTo l o k := by
  rw [undTo, h]
  cases l[k]? <;> simp
theorem undTo_mem {l : List DRole} {o : List Bool} {u : ByteArray} : ∀ {k : Nat}, u ∈ undTo l o k ↔ ∃ (j : Nat) (x : DRole), j < k ∧ l[j]? = some x ∧ o[j]? = some true ∧ x.name = u
  | 0 => by simp [undTo]
  | k + 1 => by
    rw [undTo, List.mem_append, undTo_mem]
    constructor
    · rintro (⟨j, x, h1, h2, h3, h4⟩ | h)
      · exact ⟨j, x, by omega, h2, h3, h4⟩
      · split at h
        · rename_i x hx ho
          exact ⟨k, x, by omega, hx, ho, (List.mem_singleton.1 h).symm⟩
        · cases h
    · rintro ⟨j, x, h1, h2, h3, h4⟩
      rcases Nat.lt_or_ge j k with h5 | h5
      · exact .inl ⟨j, x, h5, h2, h3, h4⟩
      · obtain rfl : j = k := by omega
        refine .inr ?_
        rw [h2, h3]
        simp [h4]
theorem undTo_len (l : List DRole) (o : List Bool) : ∀ k, (undTo l o k).length ≤ k
  | 0 => by simp [undTo]
  | k + 1 => by
    have := undTo_len l o k
    rw [undTo, List.length_append]
    split <;> simp <;> omega
theorem undTo_sorted {R : ByteArray → ByteArray → Prop} {l : List DRole} {o : List Bool} (hs : l.Pairwise fun x y => R x.name y.name) : ∀ k, (undTo l o k).Pairwise R
  | 0 => by simp [undTo]
  | k + 1 => by
    rw [undTo, List.pairwise_append]
    refine ⟨undTo_sorted hs k, by split <;> simp, fun a ha b hb => ?_⟩
    obtain ⟨j, x, h1, h2, _, rfl⟩ := undTo_mem.1 ha
    split at hb
    · rename_i y hy _
      rw [List.mem_singleton] at hb
      subst hb
      obtain ⟨hj1, hj2⟩ := List.getElem?_eq_some_iff.1 h2
      obtain ⟨hk1, hk2⟩ := List.getElem?_eq_some_iff.1 hy
      have := List.pairwise_iff_getElem.1 hs j k hj1 hk1 h1
      rwa [hj2, hk2] at this
    · cases hb
theorem undN_mem {l : List DRole} {a : Nat} {u : ByteArray} : u ∈ undN l a ↔ ∃ (j : Nat) (x : DRole), l[j]? = some x ∧ Reach l a j ∧ x.name = u := by
  unfold undN
  rw [undTo_mem]
  constructor
  · rintro ⟨j, x, h1, h2, h3, h4⟩
    exact ⟨j, x, h2, (UndB_get h1).1 h3, h4⟩
  · rintro ⟨j, x, h2, h3, h4⟩
    have := (List.getElem?_eq_some_iff.1 h2).1
    exact ⟨j, x, this, h2, (UndB_get this).2 h3, h4⟩

/-- lists in strict order with the same members are the same -/
theorem sorted_same {R : ByteArray → ByteArray → Prop} (hir : ∀ a, ¬ R a a) (htr : ∀ a b c, R a b → R b c → R a c) : ∀ (a b : List ByteArray), a.Pairwise R → b.Pairwise R → (∀ u, u ∈ a ↔ u ∈ b) → a = b
  | [], [], _, _, _ => rfl
  | [], y :: s, _, _, h => absurd ((h y).2 (by simp)) (by simp)
  | x :: r, [], _, _, h => absurd ((h x).1 (by simp)) (by simp)
  | x :: r, y :: s, ha, hb, h => by
    obtain ⟨ha1, ha2⟩ := List.pairwise_cons.1 ha
    obtain ⟨hb1, hb2⟩ := List.pairwise_cons.1 hb
    have e : x = y := by
      rcases List.mem_cons.1 ((h x).1 (by simp)) with e | h1
      · exact e
      · rcases List.mem_cons.1 ((h y).2 (by simp)) with e | h2
        · exact e.symm
        · exact absurd (htr _ _ _ (ha1 y h2) (hb1 x h1)) (hir x)
    subst e
    rw [sorted_same hir htr r s ha2 hb2 fun u => ?_]
    constructor
    · intro hu
      rcases List.mem_cons.1 ((h u).1 (by simp [hu])) with e | h1
      · subst e; exact absurd (ha1 u hu) (hir u)
      · exact h1
    · intro hu
      rcases List.mem_cons.1 ((h u).2 (by simp [hu])) with e | h1
      · subst e; exact absurd (hb1 u hu) (hir u)
      · exact h1
end Go.Proofs.Ytepegiklnhoobaa
