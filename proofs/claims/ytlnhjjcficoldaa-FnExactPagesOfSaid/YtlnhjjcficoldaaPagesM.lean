/- Lists of pages that grow: a page is added, the last page grows. -/
import Derived.Test.YtlnhjjcficoldaaRows
import Derived.Test.YtlnhjjcficoldaaPages
namespace Go.Proofs.Ytlnhjjcficoldaa
set_option linter.unusedVariables false
set_option linter.unusedSimpArgs false
set_option linter.unusedSectionVars false
open Go.RowKit

theorem set_get {α : Type} {l : List α} {t j : Nat} {x y : α} (h : (l.set t x)[j]? = some y) : (j = t ∧ y = x) ∨ (j ≠ t ∧ l[j]? = some y) := by
  by_cases hj : t = j
  · subst hj
    rw [List.getElem?_set_self (by have := get_lt h; rwa [List.length_set] at this)] at h
    exact .inl ⟨rfl, (Option.some.inj h).symm⟩
  · rw [List.getElem?_set_ne hj] at h
    exact .inr ⟨fun e => hj e.symm, h⟩
theorem snoc_get {α : Type} {l : List α} {j : Nat} {x y : α} (h : (l ++ [x])[j]? = some y) : (j = l.length ∧ y = x) ∨ l[j]? = some y := by
  have hl := get_lt h
  rw [List.length_append, List.length_singleton] at hl
  rcases Nat.lt_or_ge j l.length with h1 | h1
  · rw [List.getElem?_append_left h1] at h; exact .inr h
  · obtain rfl : j = l.length := by omega
    rw [List.getElem?_append_right (Nat.le_refl _), Nat.sub_self] at h
    exact .inl ⟨rfl, (Option.some.inj h).symm⟩
/-- one cell of the row of pages set -/
theorem GL.setSl {et : TypeId} {base g n c j : Nat} {w : World} {l : List Sl} (h : GL slE et base w (.slice (some ⟨g, 0, none⟩) n c) l) (hj : j < n) (x : Sl) :
    GL slE et base (w.setCell ⟨g, j, none⟩ (.slice x.A x.n x.c)) (.slice (some ⟨g, 0, none⟩) n c) (l.set j x) := by
  have hl := h.len
  have h1 := h.splice j [x] (by simp; omega)
  have e5 : w.setCells g (j * slE.k) ([x].flatMap slE.cells) = w.setCell ⟨g, j, none⟩ (.slice x.A x.n x.c) := by
    show w.setCells g (j * 1) [.slice x.A x.n x.c] = _
    rw [Nat.mul_one]
    rfl
  rw [e5] at h1
  have e : l.take j ++ [x] ++ l.drop (j + [x].length) = l.set j x := by
    rw [List.set_eq_take_append_cons_drop, if_pos (by omega)]
    simp
  rw [e] at h1
  exact h1
/-- a page is added -/
theorem PgW.add {base : Nat} {w w' : World} {A A' : Option Addr} {n c n' c' : Nat} {ps : List Sl} {L : List (List ByteArray)} (hp : PgW base w (.slice A n c) ps L) (p : Sl) (l : List ByteArray)
    (hgl : GL strE 9 base w (.slice p.A p.n p.c) l) (hpo : Apart (.slice p.A p.n p.c) (.slice A n c)) (hpp : ∀ (k : Nat) (q : Sl), ps[k]? = some q → Apart (.slice p.A p.n p.c) (.slice q.A q.n q.c))
    (ht : Touch (fun k => Value.ownBlock (.slice A n c) = some k) w w') (hnew : ∀ k, Value.ownBlock (.slice A' n' c') = some k → Value.ownBlock (.slice A n c) = some k ∨ w.heap.size ≤ k) :
    PgW base w' (.slice A' n' c') (ps ++ [p]) (L ++ [l]) where
  len := by rw [List.length_append, List.length_append, hp.len]; rfl
  row := fun k q r hq hr => by
    rcases snoc_get hq with ⟨rfl, rfl⟩ | hq'
    · rcases snoc_get hr with ⟨_, rfl⟩ | hr'
      · exact hgl.touchO ht hpo
      · have := get_lt hr'; have := hp.len; omega
    · rcases snoc_get hr with ⟨h1, _⟩ | hr'
      · have := get_lt hq'; have := hp.len; omega
      · exact (hp.row k q r hq' hr').touchO ht (hp.out k q hq')
  out := fun k q hq => by
    rcases snoc_get hq with ⟨rfl, rfl⟩ | hq'
    · exact Apart.grow hgl hpo hnew
    · obtain ⟨r, hr⟩ : ∃ r, L[k]? = some r := get_ex (by rw [← hp.len]; exact get_lt hq')
      exact Apart.grow (hp.row k q r hq' hr) (hp.out k q hq') hnew
  two := fun j k q r hjk hq hr => by
    rcases snoc_get hq with ⟨h1, rfl⟩ | hq'
    · rcases snoc_get hr with ⟨h2, _⟩ | hr'
      · omega
      · exact hpp k r hr'
    · rcases snoc_get hr with ⟨h2, rfl⟩ | hr'
      · exact (hpp j q hq').symm
      · exact hp.two j k q r hjk hq' hr'
/-- the last page grows -/
theorem PgW.grow {base : Nat} {w w' : World} {g n c : Nat} {ps : List Sl} {L0 : List (List ByteArray)} {l0 : List ByteArray} {x : ByteArray} {p p' : Sl} (hg : GL slE 22 base w (.slice (some ⟨g, 0, none⟩) n c) ps)
    (hp : PgW base w (.slice (some ⟨g, 0, none⟩) n c) ps (L0 ++ [l0])) (hpt : ps[L0.length]? = some p) (hgl : GL strE 9 base w' (.slice p'.A p'.n p'.c) (l0 ++ [x]))
    (ht : Touch (fun k => Value.ownBlock (.slice p.A p.n p.c) = some k) w w') (hnew : ∀ k, Value.ownBlock (.slice p'.A p'.n p'.c) = some k → Value.ownBlock (.slice p.A p.n p.c) = some k ∨ w.heap.size ≤ k) :
    GL slE 22 base (w'.setCell ⟨g, L0.length, none⟩ (.slice p'.A p'.n p'.c)) (.slice (some ⟨g, 0, none⟩) n c) (ps.set L0.length p') ∧
    PgW base (w'.setCell ⟨g, L0.length, none⟩ (.slice p'.A p'.n p'.c)) (.slice (some ⟨g, 0, none⟩) n c) (ps.set L0.length p') (L0 ++ [l0 ++ [x]]) := by
  have hlt : L0.length < n := by have := get_lt hpt; rwa [hg.len] at this
  have hg' : GL slE 22 base w' (.slice (some ⟨g, 0, none⟩) n c) ps := hg.touchO ht (hp.out _ p hpt).symm
  have hpo : Apart (.slice p'.A p'.n p'.c) (.slice (some ⟨g, 0, none⟩) n c) := (Apart.grow hg (hp.out _ p hpt).symm hnew).symm
  have hs : ∀ {v : Value} {l : List ByteArray} {A : Option Addr} {m d : Nat}, GL strE 9 base w' (.slice A m d) l → Apart (.slice A m d) (.slice (some ⟨g, 0, none⟩) n c) → GL strE 9 base (w'.setCell ⟨g, L0.length, none⟩ v) (.slice A m d) l := fun h1 h2 => h1.touchO (touch_own w' g n c L0.length _) h2
  refine ⟨hg'.setSl hlt p', ⟨?_, fun k q r hq hr => ?_, fun k q hq => ?_, fun j k q r hjk hq hr => ?_⟩⟩
  · rw [List.length_set, hp.len, List.length_append, List.length_append]; rfl
  · rcases set_get hq with ⟨rfl, rfl⟩ | ⟨hne, hq'⟩
    · rcases snoc_get hr with ⟨_, rfl⟩ | hr'
      · exact hs hgl hpo
      · have := get_lt hr'; omega
    · have hr' : (L0 ++ [l0])[k]? = some r := by
        rcases snoc_get hr with ⟨h1, _⟩ | h1
        · exact absurd h1 hne
        · rw [List.getElem?_append_left (get_lt h1)]; exact h1
      have ha := hp.two k L0.length q p hne hq' hpt
      exact hs ((hp.row k q r hq' hr').touchO ht ha) (hp.out k q hq')
  · rcases set_get hq with ⟨rfl, rfl⟩ | ⟨hne, hq'⟩
    · exact hpo
    · exact hp.out k q hq'
  · rcases set_get hq with ⟨h1, rfl⟩ | ⟨hne, hq'⟩
    · rcases set_get hr with ⟨h2, rfl⟩ | ⟨hne2, hr'⟩
      · omega
      · obtain ⟨s, hs'⟩ : ∃ s, (L0 ++ [l0])[k]? = some s := get_ex (by rw [← hp.len]; exact get_lt hr')
        exact (Apart.grow (hp.row k r s hr' hs') (hp.two k L0.length r p hne2 hr' hpt) hnew).symm
    · rcases set_get hr with ⟨h2, rfl⟩ | ⟨hne2, hr'⟩
      · obtain ⟨s, hs'⟩ : ∃ s, (L0 ++ [l0])[j]? = some s := get_ex (by rw [← hp.len]; exact get_lt hq')
        exact Apart.grow (hp.row j q s hq' hs') (hp.two j L0.length q p hne hq' hpt) hnew
      · exact hp.two j k q r hjk hq' hr'
/-- a page of one line that has just been laid -/
theorem GL.one {base : Nat} {w : World} (s : ByteArray) (hb : base ≤ w.heap.size) : GL strE 9 base (w.alloc (.cells #[.string s] 9)) (.slice (some ⟨w.heap.size, 0, none⟩) 1 1) [s] := by
  have h := World.ownsRow_lit (base := base) (e := 9) (size := 1) w #[.string s] 1 hb (by unfold maxLen; omega) (by simp)
  exact h
theorem Try.info_slS : (Try.prog.info? 22).map (fun i => (i.zero, i.size, i.bytes)) = some (some (.slice none 0 0), 1, 24) := by kernel_rfl
/-- what PagesOf answers: pages of the call's own -/
def RetSSC (L : List (List ByteArray)) (code : Int) (w : World) (e : Ending) (w' : World) : Prop :=
  ∃ A n c ps, L.length = n ∧ n ≤ 1048576 ∧ GL slE 22 w.heap.size w' (.slice A n c) ps ∧ PgW w.heap.size w' (.slice A n c) ps L ∧ e = .returned (.tuple #[.slice A n c, .int .i64 code]) ∧ Below w.heap.size w w'
theorem RetSSC.nil {L : List (List ByteArray)} {code c : Int} {w w' : World} (hL : L = []) (hc : code = c) (hb : Below w.heap.size w w') : RetSSC L code w (.returned (.tuple #[.slice none 0 0, .int .i64 c])) w' := by
  subst hL hc
  exact ⟨none, 0, 0, [], rfl, by omega, ⟨by simp, .inl ⟨rfl, rfl⟩⟩, ⟨rfl, fun k p l h => by simp at h, fun k p h => by simp at h, fun j k p q _ h => by simp at h⟩, rfl, hb⟩
end Go.Proofs.Ytlnhjjcficoldaa
