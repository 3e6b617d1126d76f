/- Settings in order of their names: plain laws. Nothing here speaks of the program. -/
import Derived.Test.YtfabijhilfjkcaaStableLaw
namespace Go.Proofs.Ytfabijhilfjkcaa
set_option linter.unusedVariables false
set_option linter.unusedSimpArgs false
set_option linter.unusedSectionVars false

structure DSetting where
  fName : ByteArray
  fValue : Int
def nlS (a b : ByteArray) : Prop := leS a b ∧ a ≠ b
theorem nlS.trans {a b c : ByteArray} (h1 : nlS a b) (h2 : nlS b c) : nlS a c := ⟨leS_trans h1.1 h2.1, fun e => by
  subst e
  exact h1.2 (leS_antisymm h1.1 h2.1)⟩
theorem nlS.trans_le {a b c : ByteArray} (h1 : nlS a b) (h2 : leS b c) : nlS a c := ⟨leS_trans h1.1 h2, fun e => by
  subst e
  exact h1.2 (leS_antisymm h1.1 h2)⟩
theorem nlS.asymm {a b : ByteArray} (h1 : nlS a b) (h2 : leS b a) : False := h1.2 (leS_antisymm h1.1 h2)
theorem bl_iff {a b : ByteArray} : Op.bytesLess a.toList b.toList = true ↔ nlS a b := by
  unfold nlS leS
  rw [ByteArray.toList_eq, ByteArray.toList_eq, bytesLess_eq, decide_eq_true_eq]
  constructor
  · intro h
    exact ⟨List.le_of_lt h, fun e => by rw [e] at h; exact List.lt_irrefl _ h⟩
  · rintro ⟨h, hne⟩
    rcases List.le_iff_lt_or_eq.1 h with h1 | h1
    · exact h1
    · exact absurd (by cases a; cases b; simp only [ByteArray.mk.injEq]; exact Array.toList_inj.1 h1) hne
theorem bl_not {a b : ByteArray} : Op.bytesLess a.toList b.toList = false ↔ leS b a := by
  rw [← Bool.not_eq_true, bl_iff]
  constructor
  · intro h
    rcases leS_total b a with h1 | h1
    · exact h1
    · by_cases e : a = b
      · rw [e]; exact leS_refl _
      · exact absurd ⟨h1, e⟩ h
  · intro h h1
    exact h1.asymm h
def AscS (l : List ByteArray) : Prop := l.Pairwise nlS
/-- two rising lists with the same members are one -/
theorem asc_ext : ∀ {a b : List ByteArray}, AscS a → AscS b → (∀ x, x ∈ a ↔ x ∈ b) → a = b
  | [], [], _, _, _ => rfl
  | [], y :: b, _, _, h => absurd ((h y).2 (by simp)) (by simp)
  | x :: a, [], _, _, h => absurd ((h x).1 (by simp)) (by simp)
  | x :: a, y :: b, ha, hb, h => by
    have ha' := List.pairwise_cons.1 ha
    have hb' := List.pairwise_cons.1 hb
    have exy : x = y := by
      rcases List.mem_cons.1 ((h x).1 (by simp)) with e | e
      · exact e
      · rcases List.mem_cons.1 ((h y).2 (by simp)) with e' | e'
        · exact e'.symm
        · exact ((hb'.1 x e).asymm (ha'.1 y e').1).elim
    subst exy
    rw [asc_ext ha'.2 hb'.2 fun z => ?_]
    constructor
    · intro hz
      rcases List.mem_cons.1 ((h z).1 (by simp [hz])) with e | e
      · subst e
        exact absurd rfl (ha'.1 z hz).2
      · exact e
    · intro hz
      rcases List.mem_cons.1 ((h z).2 (by simp [hz])) with e | e
      · subst e
        exact absurd rfl (hb'.1 z hz).2
      · exact e
theorem names_rise (l : List ByteArray) : AscS (uniqB (sortB l)) := names_asc l
def nmS (l : List DSetting) : List ByteArray := l.map fun x => x.fName
/-- a setting put among others -/
def setS : List DSetting → DSetting → List DSetting
  | [], e => [e]
  | x :: r, e => if Op.bytesLess x.fName.toList e.fName.toList = true then x :: setS r e else if x.fName = e.fName then e :: r else e :: x :: r
theorem setS_mem {e : DSetting} : ∀ {l : List DSetting} {s : ByteArray}, s ∈ nmS (setS l e) ↔ s ∈ nmS l ∨ s = e.fName
  | [], s => by simp [setS, nmS]
  | x :: r, s => by
    have ih := setS_mem (e := e) (l := r) (s := s)
    unfold setS
    split
    · simp only [nmS, List.map_cons, List.mem_cons] at ih ⊢
      rw [ih, or_assoc]
    · split
      · rename_i h
        simp only [nmS, List.map_cons, List.mem_cons, h]
        constructor
        · rintro (h1 | h1)
          · exact .inr h1
          · exact .inl (.inr h1)
        · rintro ((h1 | h1) | h1)
          · exact .inl h1
          · exact .inr h1
          · exact .inl h1
      · simp only [nmS, List.map_cons, List.mem_cons]
        constructor
        · rintro (h1 | h1)
          · exact .inr h1
          · exact .inl h1
        · rintro (h1 | h1)
          · exact .inr h1
          · exact .inl h1
theorem setS_asc {e : DSetting} : ∀ {l : List DSetting}, AscS (nmS l) → AscS (nmS (setS l e))
  | [], _ => by simp [setS, nmS, AscS]
  | x :: r, h => by
    have h' := List.pairwise_cons.1 (show (x.fName :: nmS r).Pairwise nlS from h)
    unfold setS
    split
    · rename_i hlt
      refine List.pairwise_cons.2 ⟨fun y hy => ?_, setS_asc h'.2⟩
      rcases setS_mem.1 hy with h1 | h1
      · exact h'.1 y h1
      · rw [h1]; exact bl_iff.1 hlt
    · rename_i hge
      have hge' : leS e.fName x.fName := bl_not.1 (by simpa using hge)
      split
      · rename_i he
        refine List.pairwise_cons.2 ⟨fun y hy => ?_, h'.2⟩
        show nlS e.fName y
        rw [← he]; exact h'.1 y hy
      · rename_i he
        have hlt : nlS e.fName x.fName := ⟨hge', fun e' => he e'.symm⟩
        refine List.pairwise_cons.2 ⟨fun y hy => ?_, h⟩
        rcases List.mem_cons.1 hy with h1 | h1
        · rw [h1]; exact hlt
        · exact hlt.trans (h'.1 y h1)
/-- all settings so far lie ahead of e -/
def AllLt (l : List DSetting) (e : DSetting) : Prop := ∀ x ∈ l, Op.bytesLess x.fName.toList e.fName.toList = true
theorem setS_end {e : DSetting} : ∀ {l : List DSetting}, AllLt l e → setS l e = l ++ [e]
  | [], _ => rfl
  | x :: r, h => by
    unfold setS
    rw [if_pos (h x (by simp)), setS_end fun y hy => h y (by simp [hy])]
    rfl
theorem setS_hit {e x : DSetting} (hx : Op.bytesLess x.fName.toList e.fName.toList = false) : ∀ {l : List DSetting}, AllLt l e → setS (l ++ [x]) e = l ++ (if x.fName = e.fName then [e] else [e, x])
  | [], _ => by
    show setS [x] e = _
    unfold setS
    rw [if_neg (by rw [hx]; simp)]
    split <;> rfl
  | y :: r, h => by
    show setS (y :: (r ++ [x])) e = _
    unfold setS
    rw [if_pos (h y (by simp)), setS_hit hx fun z hz => h z (by simp [hz])]
    rfl
theorem setS_past {e x : DSetting} : ∀ {l : List DSetting}, AscS (nmS (l ++ [x])) → ¬ AllLt l e → setS (l ++ [x]) e = setS l e ++ [x] ∧ x.fName ≠ e.fName
  | [], _, h => absurd (fun y hy => by cases hy) h
  | y :: r, ha, h => by
    have ha' := List.pairwise_cons.1 (show (y.fName :: nmS (r ++ [x])).Pairwise nlS from ha)
    have hyx : nlS y.fName x.fName := ha'.1 x.fName (by simp [nmS])
    by_cases hy : Op.bytesLess y.fName.toList e.fName.toList = true
    · have hr : ¬ AllLt r e := fun h1 => h fun z hz => by
        rcases List.mem_cons.1 hz with h2 | h2
        · subst h2; exact hy
        · exact h1 z h2
      have ih := setS_past ha'.2 hr
      refine ⟨?_, ih.2⟩
      show setS (y :: (r ++ [x])) e = setS (y :: r) e ++ [x]
      unfold setS
      rw [if_pos hy, if_pos hy, ih.1]
      rfl
    · have hge : leS e.fName y.fName := bl_not.1 (by simpa using hy)
      have hne : x.fName ≠ e.fName := fun e' => by rw [e'] at hyx; exact hyx.asymm hge
      refine ⟨?_, hne⟩
      show setS (y :: (r ++ [x])) e = setS (y :: r) e ++ [x]
      unfold setS
      rw [if_neg hy, if_neg hy]
      split <;> rfl
theorem AllLt.snoc {l : List DSetting} {e x : DSetting} (h : AllLt l e) (hx : Op.bytesLess x.fName.toList e.fName.toList = true) : AllLt (l ++ [x]) e := fun y hy => by
  rcases List.mem_append.1 hy with h1 | h1
  · exact h y h1
  · rw [List.mem_singleton.1 h1]; exact hx
theorem not_lt_snoc {l : List DSetting} {e x : DSetting} (hx : Op.bytesLess x.fName.toList e.fName.toList = false) : ¬ AllLt (l ++ [x]) e := fun h => by
  have := h x (by simp)
  rw [hx] at this
  cases this
theorem not_lt_more {l : List DSetting} {e x : DSetting} (h : ¬ AllLt l e) : ¬ AllLt (l ++ [x]) e := fun h1 => h fun y hy => h1 y (by simp [hy])
def setAll (l : List DSetting) (more : List DSetting) : List DSetting := more.foldl setS l
theorem setAll_asc : ∀ {more l : List DSetting}, AscS (nmS l) → AscS (nmS (setAll l more))
  | [], _, h => h
  | _ :: r, _, h => setAll_asc (more := r) (setS_asc h)
theorem setAll_mem : ∀ {more l : List DSetting} {s : ByteArray}, s ∈ nmS (setAll l more) ↔ s ∈ nmS l ∨ s ∈ nmS more
  | [], l, s => by simp [setAll, nmS]
  | x :: r, l, s => by
    have ih := setAll_mem (more := r) (l := setS l x) (s := s)
    show s ∈ nmS (setAll (setS l x) r) ↔ _
    rw [ih, setS_mem]
    simp only [nmS, List.map_cons, List.mem_cons, or_assoc]
theorem setAll_app (l a b : List DSetting) : setAll l (a ++ b) = setAll (setAll l a) b := by unfold setAll; rw [List.foldl_append]
theorem setAll_take {l more : List DSetting} {k : Nat} {x : DSetting} (h : more[k]? = some x) : setAll l (more.take (k + 1)) = setS (setAll l (more.take k)) x := by
  rw [take_snoc h, setAll_app]; rfl
/-- all names in order: by putting, or by sorting -/
theorem names_put (l : List DSetting) : nmS (setAll [] l) = uniqB (sortB (nmS l)) :=
  asc_ext (setAll_asc (by simp [nmS, AscS])) (names_rise _) fun s => by rw [setAll_mem, names_mem]; simp [nmS]
/-- the setting of a name, if there is one -/
def atS (l : List DSetting) (s : ByteArray) : Option DSetting := l.find? fun x => decide (x.fName = s)
def valS (l : List DSetting) (s : ByteArray) : Int := match atS l s with | some x => x.fValue | none => -1
def getS (l : List DSetting) (s : ByteArray) : DSetting := match atS l s with | some x => x | none => ⟨⟨#[]⟩, 0⟩
theorem atS_some {l : List DSetting} {s : ByteArray} {x : DSetting} (h : atS l s = some x) : x ∈ l ∧ x.fName = s := ⟨List.mem_of_find?_eq_some h, by simpa using List.find?_some h⟩
theorem atS_none {l : List DSetting} {s : ByteArray} : atS l s = none ↔ s ∉ nmS l := by
  unfold atS nmS
  rw [List.find?_eq_none]
  constructor
  · intro h hm
    obtain ⟨x, hx, e⟩ := List.mem_map.1 hm
    exact h x hx (by simpa using e)
  · intro h x hx e
    exact h (List.mem_map.2 ⟨x, hx, by simpa using e⟩)
theorem asc_at : ∀ {l : List DSetting} {k : Nat} {x : DSetting}, AscS (nmS l) → l[k]? = some x → atS l x.fName = some x
  | [], k, x, _, h => by simp at h
  | y :: r, 0, x, _, h => by
    simp at h
    subst h
    simp [atS]
  | y :: r, k + 1, x, ha, h => by
    have ha' := List.pairwise_cons.1 (show (y.fName :: nmS r).Pairwise nlS from ha)
    have hx : r[k]? = some x := by simpa using h
    have hne : y.fName ≠ x.fName := (ha'.1 x.fName (List.mem_map.2 ⟨x, List.mem_of_getElem? hx, rfl⟩)).2
    have := asc_at ha'.2 hx
    unfold atS at *
    rw [List.find?_cons, decide_eq_false hne]
    exact this
/-- what a scan from the front finds -/
theorem scan_hit {l : List DSetting} {s : ByteArray} {k : Nat} {x : DSetting} (ha : AscS (nmS l)) (h : l[k]? = some x) (e : x.fName = s) : valS l s = x.fValue ∧ atS l s = some x := by
  have := asc_at ha h
  rw [e] at this
  exact ⟨by unfold valS; rw [this], this⟩
theorem scan_miss {l : List DSetting} {s : ByteArray} {k : Nat} (ha : AscS (nmS l)) (hlo : ∀ (j : Nat) y, j < k → l[j]? = some y → Op.bytesLess y.fName.toList s.toList = true) (hk : ∀ x, l[k]? = some x → Op.bytesLess x.fName.toList s.toList = false ∧ x.fName ≠ s) : valS l s = -1 ∧ atS l s = none := by
  have h0 : atS l s = none := by
    rw [atS_none]
    intro hm
    obtain ⟨y, hy, rfl⟩ := List.mem_map.1 hm
    obtain ⟨j, hj⟩ := List.mem_iff_getElem?.1 hy
    rcases Nat.lt_trichotomy j k with h1 | h1 | h1
    · have := bl_iff.1 (hlo j y h1 hj)
      exact this.2 rfl
    · subst h1
      exact (hk y hj).2 rfl
    · have hlen := (List.getElem?_eq_some_iff.1 hj).1
      obtain ⟨x, hx⟩ : ∃ x, l[k]? = some x := ⟨_, List.getElem?_eq_getElem (by omega)⟩
      have h2 := hk x hx
      have h3 : nlS x.fName y.fName := by
        have hp := List.pairwise_iff_getElem.1 (show (l.map fun x => x.fName).Pairwise nlS from ha) k j (by rw [List.length_map]; omega) (by rw [List.length_map]; exact hlen) h1
        rw [List.getElem_map, List.getElem_map] at hp
        rw [← (List.getElem?_eq_some_iff.1 hx).2, ← (List.getElem?_eq_some_iff.1 hj).2]
        exact hp
      exact h3.asymm (bl_not.1 h2.1)
  exact ⟨by unfold valS; rw [h0], h0⟩
end Go.Proofs.Ytfabijhilfjkcaa
