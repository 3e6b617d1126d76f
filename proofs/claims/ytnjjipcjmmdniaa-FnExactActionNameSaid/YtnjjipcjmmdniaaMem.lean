/- Words for memory: how a list of strings, numbers or structs lies in cells; what the call owns; nothing here speaks of the program. -/
import Derived.WalkKit
import Derived.WalkSpells
import Derived.WalkLawsBesides
import Derived.Lib.Hide
import Derived.BigQuiet
import Derived.Deep.QuietTactic
import Derived.Deep.MidRow
import Derived.Deep.AppendLies
import Derived.Deep.OwnRows
namespace Go.Proofs.Ytnjjipcjmmdniaa
open Go.RowKit

theorem addr_add (b o j : Nat) : (⟨b, o, none⟩ : Addr).add j = ⟨b, o + j, none⟩ := by unfold Addr.add; split <;> simp_all

/-- How one element lies in cells. -/
structure Enc (α : Type) where
  k : Nat
  cells : α → List Value
  len : ∀ a, (cells a).length = k
  pos : 0 < k
  one : ∀ a, ∀ u ∈ cells a, u.oneCell' = true

def strE : Enc ByteArray := ⟨1, fun s => [.string s], fun _ => rfl, by decide, fun _ u h => by simp at h; subst h; rfl⟩
def intE : Enc Int := ⟨1, fun n => [.int .i64 n], fun _ => rfl, by decide, fun _ u h => by simp at h; subst h; rfl⟩

theorem flat_len {α : Type} (E : Enc α) (l : List α) : (l.flatMap E.cells).length = l.length * E.k := by
  induction l with
  | nil => simp
  | cons x r ih => simp only [List.flatMap_cons, List.length_append, E.len, ih, List.length_cons, Nat.add_mul]; omega

theorem flat_get {α : Type} (E : Enc α) (l : List α) (k : Nat) (x : α) (h : l[k]? = some x) (j : Nat) (u : Value) (hu : (E.cells x)[j]? = some u) : (l.flatMap E.cells)[k * E.k + j]? = some u := by
  induction l generalizing k with
  | nil => simp at h
  | cons y r ih =>
    have hj : j < E.k := by have := (List.getElem?_eq_some_iff.1 hu).1; rw [E.len] at this; exact this
    cases k with
    | zero =>
      simp only [List.getElem?_cons_zero, Option.some.injEq] at h
      subst h
      simp only [List.flatMap_cons, Nat.zero_mul, Nat.zero_add]
      rw [List.getElem?_append_left (by rw [E.len]; exact hj)]
      exact hu
    | succ k =>
      simp only [List.getElem?_cons_succ] at h
      simp only [List.flatMap_cons]
      rw [List.getElem?_append_right (by rw [E.len, Nat.add_mul]; omega), E.len]
      have e : (k + 1) * E.k + j - E.k = k * E.k + j := by rw [Nat.add_mul]; omega
      rw [e]
      exact ih k h

/-- The slice '.slice A n _' reads as the list l. -/
def Rd {α : Type} (E : Enc α) (w : World) (A : Option Addr) (n : Nat) (l : List α) : Prop :=
  l.length = n ∧ (0 < n → ∃ b off, A = some ⟨b, off, none⟩ ∧ ∀ k x, l[k]? = some x → w.rangeAt b (off + k * E.k) (E.cells x))

section
variable {α : Type} {E : Enc α} {w w' : World} {A : Option Addr} {n : Nat} {l : List α}

theorem Rd.get (h : Rd E w A n l) {k : Nat} (hk : k < n) : ∃ b off x, A = some ⟨b, off, none⟩ ∧ l[k]? = some x ∧ w.rangeAt b (off + k * E.k) (E.cells x) := by
  obtain ⟨b, off, e, hc⟩ := h.2 (by omega)
  have hl : k < l.length := by rw [h.1]; exact hk
  exact ⟨b, off, l[k], e, List.getElem?_eq_getElem hl, hc k _ (List.getElem?_eq_getElem hl)⟩

theorem range_below {B b o : Nat} {cs : List Value} (h : w.rangeAt b o cs) (hb : Below w.heap.size w w') : w'.rangeAt b o cs := fun j v hv => by
  have hc := h j v hv
  rw [hb.cell (World.block_lt_of_cell? w _ hc)]
  exact hc

theorem Rd.below (h : Rd E w A n l) (hb : Below w.heap.size w w') : Rd E w' A n l :=
  ⟨h.1, fun hn => by
    obtain ⟨b, off, e, hc⟩ := h.2 hn
    exact ⟨b, off, e, fun k x hx => range_below (B := 0) (hc k x hx) hb⟩⟩

theorem Rd.drew (h : Rd E w A n l) : Rd E w.drew A n l := h
theorem Rd.drewN (h : Rd E w A n l) (k : Nat) : Rd E (w.drewN k) A n l := h
theorem Rd.alloc (h : Rd E w A n l) (o : Obj) : Rd E (w.alloc o) A n l := h.below ((Below.refl _ _).alloc (Nat.le_refl _) o)
theorem Rd.nil : Rd E w none 0 [] := ⟨rfl, fun h => absurd h (by omega)⟩

/-- A block that has just been laid reads as what it was laid with. -/
theorem Rd.lit1 {α : Type} (E : Enc α) {w : World} {l : List α} {cs : Array Value} {n : Nat} {t : TypeId} {fr : Nat × Nat} (hn : l.length = n) (hc : cs.toList = l.flatMap E.cells) {g : Nat} (hg : g = w.heap.size) :
    Rd E (w.alloc (.cells cs t fr)) (some ⟨g, 0, none⟩) n l := by
  subst hg
  refine ⟨hn, fun _ => ⟨_, 0, rfl, fun k x hx j u hu => ?_⟩⟩
  have h1 := flat_get E l k x hx j u hu
  rw [← hc] at h1
  rw [Nat.zero_add, cell_of_row _ _ _ cs t fr (heap_alloc_new w _)]
  simpa using h1

/-- What the call owns reads. -/
theorem Rd.of_own {base : Nat} {e : TypeId} {c : Nat} (h : w.ownsRow base e E.k (.slice A n c) n (l.flatMap E.cells)) (hl : l.length = n) : Rd E w A n l := by
  refine ⟨hl, fun hn => ?_⟩
  obtain ⟨g, cap, hv, _, _⟩ := h.form hn
  injection hv with hA
  subst hA
  refine ⟨g, 0, rfl, fun k x hx j u hu => ?_⟩
  have h1 := h.cells (g := g) rfl (k * E.k + j) u (flat_get E l k x hx j u hu)
  rw [addr_add] at h1
  rw [Nat.zero_add] at h1 ⊢
  exact h1
end

theorem own_below {w w' : World} {base : Nat} {e : TypeId} {size : Nat} {v : Value} {n : Nat} {xs : List Value} (h : w.ownsRow base e size v n xs) (hb : Below w.heap.size w w') : w'.ownsRow base e size v n xs :=
  h.kept (row := none) ⟨hb.os, hb.tape, hb.output, hb.size, fun k hk _ => hb.block k hk⟩ (by cases v.ownBlock <;> simp)

theorem drop_of_get {α : Type} {l : List α} {k : Nat} {x : α} (h : l[k]? = some x) : l.drop k = x :: l.drop (k + 1) := by
  obtain ⟨hk, rfl⟩ := List.getElem?_eq_some_iff.1 h
  exact List.drop_eq_getElem_cons hk

theorem take_of_get {α : Type} {l : List α} {k : Nat} {x : α} (h : l[k]? = some x) : l.take (k + 1) = l.take k ++ [x] := by
  obtain ⟨hk, rfl⟩ := List.getElem?_eq_some_iff.1 h
  exact (List.take_append_getElem hk).symm

theorem mem_of_get {α : Type} {l : List α} {k : Nat} {x : α} (h : l[k]? = some x) : x ∈ l := List.mem_of_getElem? h

/-- The cells vs laid over xs from place o on. -/
def setsAt : List Value → Nat → List Value → List Value
  | xs, _, [] => xs
  | xs, o, v :: r => setsAt (xs.set o v) (o + 1) r

theorem setsAt_mid (vs : List Value) : ∀ (a b c : List Value), b.length = vs.length → setsAt (a ++ b ++ c) a.length vs = a ++ vs ++ c := by
  induction vs with
  | nil => intro a b c h; rw [List.eq_nil_of_length_eq_zero h]; rfl
  | cons v r ih =>
    intro a b c h
    match b, h with
    | x :: b', h =>
      have e : (a ++ x :: b' ++ c).set a.length v = (a ++ [v]) ++ b' ++ c := by simp
      have e2 : a.length + 1 = (a ++ [v]).length := by simp
      rw [setsAt, e, e2, ih (a ++ [v]) b' c (by simpa using h)]
      simp

theorem setsAt_flat {α : Type} (E : Enc α) (zs : List α) (k : Nat) (x : α) (hk : k < zs.length) : setsAt (zs.flatMap E.cells) (k * E.k) (E.cells x) = (zs.set k x).flatMap E.cells := by
  have h1 : zs = zs.take k ++ (zs[k] :: zs.drop (k + 1)) := by rw [← List.drop_eq_getElem_cons hk, List.take_append_drop]
  have h2 : zs.set k x = zs.take k ++ (x :: zs.drop (k + 1)) := by rw [List.set_eq_take_append_cons_drop, if_pos hk]
  rw [h2]
  conv => lhs; rw [h1]
  simp only [List.flatMap_append, List.flatMap_cons]
  have hl : k * E.k = ((zs.take k).flatMap E.cells).length := by rw [flat_len, List.length_take, Nat.min_eq_left (by omega)]
  rw [hl, ← List.append_assoc, setsAt_mid _ _ _ _ (by rw [E.len, E.len]), List.append_assoc]

theorem own_setCells {base : Nat} {e : TypeId} {size g n cap : Nat} (vs : List Value) : ∀ {w : World} {xs : List Value} (o : Nat), w.ownsRow base e size (.slice (some ⟨g, 0, none⟩) n cap) n xs →
    (w.setCells g o vs).ownsRow base e size (.slice (some ⟨g, 0, none⟩) n cap) n (setsAt xs o vs) := by
  induction vs with
  | nil => intro w xs o h; exact h
  | cons v r ih => intro w xs o h; rw [World.setCells, setsAt]; exact ih (o + 1) (h.stored o v).1

theorem below_setCells {B g : Nat} (hB : B ≤ g) (vs : List Value) : ∀ {a w : World} (o : Nat), Below B a w → Below B a (w.setCells g o vs) := by
  induction vs with
  | nil => intro a w o h; exact h
  | cons v r ih => intro a w o h; rw [World.setCells]; exact ih (o + 1) (h.setCell hB v)

/-- A row of n places of the call's own, of which the first k are filled as l is. -/
def Part {α : Type} (E : Enc α) (et : TypeId) (base g n : Nat) (l : List α) (k : Nat) (w : World) : Prop :=
  ∃ zs : List α, zs.length = n ∧ zs.take k = l.take k ∧ w.ownsRow base et E.k (.slice (some ⟨g, 0, none⟩) n n) n (zs.flatMap E.cells)

theorem toList_madeCells {α : Type} (E : Enc α) {z : Array Value} {x : α} (hx : E.cells x = z.toList) (n : Nat) : (madeCells z (n * E.k)).toList = (List.replicate n x).flatMap E.cells := by
  have hz : z.size = E.k := by rw [← E.len x, hx]; simp
  apply List.ext_getElem?
  intro j
  by_cases hj : j < n * E.k
  · have hn : j / E.k < n := (Nat.div_lt_iff_lt_mul E.pos).2 hj
    have hm : j % E.k < E.k := Nat.mod_lt _ E.pos
    have hu : (E.cells x)[j % E.k]? = some z[j % E.k] := by rw [hx]; simp [hz, hm]
    have h1 := flat_get E (List.replicate n x) (j / E.k) x (by simp [hn]) (j % E.k) _ hu
    rw [Nat.div_add_mod'] at h1
    rw [h1]
    simp [madeCells, hj, hz, hm]
  · rw [List.getElem?_eq_none (by simp [size_madeCells]; omega), List.getElem?_eq_none (by rw [flat_len]; simp; omega)]

section
variable {α : Type} {E : Enc α} {et : TypeId} {base g n : Nat} {l : List α} {k : Nat} {w w' : World}

theorem Part.made {z : Array Value} {x : α} (hx : E.cells x = z.toList) (hb : base ≤ w.heap.size) (hm : n ≤ maxLen) : Part E et base w.heap.size n l 0 (w.alloc (.cells (madeCells z (n * E.k)) et)) := by
  refine ⟨List.replicate n x, by simp, rfl, ?_⟩
  have h := World.ownsRow_lit (base := base) (e := et) (size := E.k) w (madeCells z (n * E.k)) n hb hm (by rw [size_madeCells])
  rw [toList_madeCells E hx] at h
  exact h

theorem Part.made1 {z : Value} {x : α} (hE : E.k = 1) (hx : E.cells x = [z]) (hb : base ≤ w.heap.size) (hm : n ≤ maxLen) : Part E et base w.heap.size n l 0 (w.alloc (.cells (madeCells #[z] n) et)) := by
  refine ⟨List.replicate n x, by simp, rfl, ?_⟩
  have h := World.ownsRow_lit (base := base) (e := et) (size := 1) w (madeCells #[z] n) n hb hm (by rw [size_madeCells]; omega)
  rw [toList_madeCells_one] at h
  have e : (List.replicate n x).flatMap E.cells = List.replicate n z := by
    clear h
    induction n with
    | zero => rfl
    | succ n ih => rw [List.replicate_succ, List.flatMap_cons, ih (by omega), hx]; rfl
  rw [e, hE]
  exact h

theorem Part.sets (h : Part E et base g n l k w) {x : α} (hx : l[k]? = some x) (hk : k < n) : Part E et base g n l (k + 1) (w.setCells g (k * E.k) (E.cells x)) := by
  obtain ⟨zs, hz, ht, ho⟩ := h
  refine ⟨zs.set k x, by simpa using hz, ?_, ?_⟩
  · rw [take_of_get hx, List.set_eq_take_append_cons_drop, if_pos (by omega), ← ht, List.take_append, List.length_take, Nat.min_eq_left (by omega), Nat.add_sub_cancel_left, List.take_of_length_le (by simp; omega)]
    rfl
  · have := own_setCells (E.cells x) (k * E.k) ho
    rw [setsAt_flat E zs k x (by omega)] at this
    exact this

theorem Part.set1 {u : Value} (h : Part E et base g n l k w) {x : α} (hx : l[k]? = some x) (hk : k < n) (hE : E.k = 1) (hu : E.cells x = [u]) : Part E et base g n l (k + 1) (w.setCell ⟨g, k, none⟩ u) := by
  have := h.sets hx hk
  rw [hE, hu, Nat.mul_one] at this
  exact this

theorem Part.cell (h : Part E et base g n l k w) {j : Nat} (hj : j < n * E.k) : ∃ u, w.cell? ⟨g, j, none⟩ = some u := by
  obtain ⟨zs, hz, _, ho⟩ := h
  have hl : j < (zs.flatMap E.cells).length := by rw [flat_len, hz]; exact hj
  exact ⟨_, (ho.cellAt j hj).trans (List.getElem?_eq_getElem hl)⟩
theorem Part.free (h : Part E et base g n l k w) (j : Nat) : w.frozen? ⟨g, j, none⟩ = false := by
  obtain ⟨zs, hz, _, ho⟩ := h
  exact ho.frozenAt j
theorem Part.there (h : Part E et base g n l k w) {o m : Nat} (hj : o + m ≤ n * E.k) : w.there g o m := fun j hj' => by
  obtain ⟨u, hu⟩ := h.cell (j := o + j) (by omega)
  exact ⟨by rw [hu]; rfl, h.free _⟩
theorem Part.below (h : Part E et base g n l k w) (hb : Below w.heap.size w w') : Part E et base g n l k w' := by
  obtain ⟨zs, hz, ht, ho⟩ := h
  exact ⟨zs, hz, ht, own_below ho hb⟩
theorem Part.base_le (h : Part E et base g n l k w) : base ≤ g := by
  obtain ⟨zs, hz, ht, ho⟩ := h
  exact (ho.lt g rfl).1
theorem Part.done (h : Part E et base g n l k w) (hl : l.length = n) (hk : n ≤ k) : w.ownsRow base et E.k (.slice (some ⟨g, 0, none⟩) n n) n (l.flatMap E.cells) := by
  obtain ⟨zs, hz, ht, ho⟩ := h
  rw [List.take_of_length_le (by omega), List.take_of_length_le (by omega)] at ht
  subst ht
  exact ho
end

theorem ret_int {k : IntKind} {a b : Int} (h : a = b) : Ending.returned (.int k a) = .returned (.int k b) := by rw [h]
theorem ret_bool {a b : Bool} (h : a = b) : Ending.returned (.bool a) = .returned (.bool b) := by rw [h]

end Go.Proofs.Ytnjjipcjmmdniaa
