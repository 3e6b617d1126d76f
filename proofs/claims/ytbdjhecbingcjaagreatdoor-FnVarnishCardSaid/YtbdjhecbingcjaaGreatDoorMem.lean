/- Words for memory: how a list of strings, numbers or structs lies in cells; what the call owns; nothing here speaks of the program. -/
import Derived.WalkKit
import Derived.WalkSpells
import Derived.WalkLawsBesides
import Derived.Lib.Hide
import Derived.BigQuiet
import Derived.Deep.QuietTactic
import Derived.Deep.MidRow
import Derived.Deep.AppendLies
import Derived.Deep.OwnRows
namespace Go.Proofs.YtbdjhecbingcjaaGreatDoor
set_option linter.unusedVariables false
set_option linter.unusedSimpArgs false
set_option linter.unusedSectionVars false
open Go.RowKit

theorem addr_add (b o j : Nat) : (⟨b, o, none⟩ : Addr).add j = ⟨b, o + j, none⟩ := by unfold Addr.add; split <;> simp_all

/-- How one element lies in cells. -/
structure Enc (α : Type) where
  k : Nat
  cells : α → List Value
  len : ∀ a, (cells a).length = k
  pos : 0 < k
  one : ∀ a, ∀ u ∈ cells a, u.oneCell' = true

def strE : Enc ByteArray := ⟨1, fun s => [.string s], fun _ => rfl, by decide, fun _ u h => by simp at h; subst h; rfl⟩
def intE : Enc Int := ⟨1, fun n => [.int .i64 n], fun _ => rfl, by decide, fun _ u h => by simp at h; subst h; rfl⟩

theorem flat_len {α : Type} (E : Enc α) (l : List α) : (l.flatMap E.cells).length = l.length * E.k := by
  induction l with
  | nil => simp
  | cons x r ih => simp only [List.flatMap_cons, List.length_append, E.len, ih, List.length_cons, Nat.add_mul]; omega

theorem flat_get {α : Type} (E : Enc α) (l : List α) (k : Nat) (x : α) (h : l[k]? = some x) (j : Nat) (u : Value) (hu : (E.cells x)[j]? = some u) : (l.flatMap E.cells)[k * E.k + j]? = some u := by
  induction l generalizing k with
  | nil => simp at h
  | cons y r ih =>
    have hj : j < E.k := by have := (List.getElem?_eq_some_iff.1 hu).1; rw [E.len] at this; exact this
    cases k with
    | zero =>
      simp only [List.getElem?_cons_zero, Option.some.injEq] at h
      subst h
      simp only [List.flatMap_cons, Nat.zero_mul, Nat.zero_add]
      rw [List.getElem?_append_left (by rw [E.len]; exact hj)]
      exact hu
    | succ k =>
      simp only [List.getElem?_cons_succ] at h
      simp only [List.flatMap_cons]
      rw [List.getElem?_append_right (by rw [E.len, Nat.add_mul]; omega), E.len]
      have e : (k + 1) * E.k + j - E.k = k * E.k + j := by rw [Nat.add_mul]; omega
      rw [e]
      exact ih k h

/-- The slice '.slice A n _' reads as the list l. -/
def Rd {α : Type} (E : Enc α) (w : World) (A : Option Addr) (n : Nat) (l : List α) : Prop :=
  l.length = n ∧ (0 < n → ∃ b off, A = some ⟨b, off, none⟩ ∧ ∀ k x, l[k]? = some x → w.rangeAt b (off + k * E.k) (E.cells x))

section
variable {α : Type} {E : Enc α} {w w' : World} {A : Option Addr} {n : Nat} {l : List α}

theorem Rd.get (h : Rd E w A n l) {k : Nat} (hk : k < n) : ∃ b off x, A = some ⟨b, off, none⟩ ∧ l[k]? = some x ∧ w.rangeAt b (off + k * E.k) (E.cells x) := by
  obtain ⟨b, off, e, hc⟩ := h.2 (by omega)
  have hl : k < l.length := by rw [h.1]; exact hk
  exact ⟨b, off, l[k], e, List.getElem?_eq_getElem hl, hc k _ (List.getElem?_eq_getElem hl)⟩

theorem range_below {B b o : Nat} {cs : List Value} (h : w.rangeAt b o cs) (hb : Below w.heap.size w w') : w'.rangeAt b o cs := fun j v hv => by
  have hc := h j v hv
  rw [hb.cell (World.block_lt_of_cell? w _ hc)]
  exact hc

theorem Rd.below (h : Rd E w A n l) (hb : Below w.heap.size w w') : Rd E w' A n l :=
  ⟨h.1, fun hn => by
    obtain ⟨b, off, e, hc⟩ := h.2 hn
    exact ⟨b, off, e, fun k x hx => range_below (B := 0) (hc k x hx) hb⟩⟩

theorem Rd.drew (h : Rd E w A n l) : Rd E w.drew A n l := h
theorem Rd.drewN (h : Rd E w A n l) (k : Nat) : Rd E (w.drewN k) A n l := h
theorem Rd.alloc (h : Rd E w A n l) (o : Obj) : Rd E (w.alloc o) A n l := h.below ((Below.refl _ _).alloc (Nat.le_refl _) o)
theorem Rd.nil : Rd E w none 0 [] := ⟨rfl, fun h => absurd h (by omega)⟩

/-- A block that has just been laid reads as what it was laid with. -/
theorem Rd.lit1 {α : Type} (E : Enc α) {w : World} {l : List α} {cs : Array Value} {n : Nat} {t : TypeId} {fr : Nat × Nat} (hn : l.length = n) (hc : cs.toList = l.flatMap E.cells) {g : Nat} (hg : g = w.heap.size) :
    Rd E (w.alloc (.cells cs t fr)) (some ⟨g, 0, none⟩) n l := by
  subst hg
  refine ⟨hn, fun _ => ⟨_, 0, rfl, fun k x hx j u hu => ?_⟩⟩
  have h1 := flat_get E l k x hx j u hu
  rw [← hc] at h1
  rw [Nat.zero_add, cell_of_row _ _ _ cs t fr (heap_alloc_new w _)]
  simpa using h1

/-- What the call owns reads. -/
theorem Rd.of_own {base : Nat} {e : TypeId} {c : Nat} (h : w.ownsRow base e E.k (.slice A n c) n (l.flatMap E.cells)) (hl : l.length = n) : Rd E w A n l := by
  refine ⟨hl, fun hn => ?_⟩
  obtain ⟨g, cap, hv, _, _⟩ := h.form hn
  injection hv with hA
  subst hA
  refine ⟨g, 0, rfl, fun k x hx j u hu => ?_⟩
  have h1 := h.cells (g := g) rfl (k * E.k + j) u (flat_get E l k x hx j u hu)
  rw [addr_add] at h1
  rw [Nat.zero_add] at h1 ⊢
  exact h1
end

theorem own_below {w w' : World} {base : Nat} {e : TypeId} {size : Nat} {v : Value} {n : Nat} {xs : List Value} (h : w.ownsRow base e size v n xs) (hb : Below w.heap.size w w') : w'.ownsRow base e size v n xs :=
  h.kept (row := none) ⟨hb.os, hb.tape, hb.output, hb.size, fun k hk _ => hb.block k hk⟩ (by cases v.ownBlock <;> simp)

/-- make([]T, n), T of several cells -/
theorem run_make_rows {P : Program} (t e : TypeId) (i : TypeInfo) (z : Value) (ht : P.underlying t = some (.slice e)) (hi : P.info? e = some i) (hz : i.zero = some z) {size : Nat} (hsize : i.size = size)
    (kl kc : IntKind) (n : Nat) (hbytes : i.bytes * n ≤ 281474976710656) (h63 : n ≤ 9223372036854775807) (w : World) :
    (Instr.makeSlice t (.int kl (n : Int)) (.int kc (n : Int))).run P w = .ok (.slice (some ⟨w.heap.size, 0, none⟩) n n) (w.alloc (.cells (madeCells z.cells (n * size)) e)) := by
  have hb' : (i.bytes : Int) * (n : Int) ≤ 281474976710656 := by
    have h : ((i.bytes * n : Nat) : Int) ≤ 281474976710656 := by omega
    rwa [Int.natCast_mul] at h
  have hr := run_make (P := P) w t e i z ht hi hz kl kc n n (by omega) (Int.le_refl _) hb' (by omega)
  simp only [Int.toNat_natCast, hsize] at hr
  exact hr

theorem drop_of_get {α : Type} {l : List α} {k : Nat} {x : α} (h : l[k]? = some x) : l.drop k = x :: l.drop (k + 1) := by
  obtain ⟨hk, rfl⟩ := List.getElem?_eq_some_iff.1 h
  exact List.drop_eq_getElem_cons hk

theorem take_of_get {α : Type} {l : List α} {k : Nat} {x : α} (h : l[k]? = some x) : l.take (k + 1) = l.take k ++ [x] := by
  obtain ⟨hk, rfl⟩ := List.getElem?_eq_some_iff.1 h
  exact (List.take_append_getElem hk).symm

theorem mem_of_get {α : Type} {l : List α} {k : Nat} {x : α} (h : l[k]? = some x) : x ∈ l := List.mem_of_getElem? h

/-- The cells vs laid over xs from place o on. -/
def setsAt : List Value → Nat → List Value → List Value
  | xs, _, [] => xs
  | xs, o, v :: r => setsAt (xs.set o v) (o + 1) r

theorem setsAt_mid (vs : List Value) : ∀ (a b c : List Value), b.length = vs.length → setsAt (a ++ b ++ c) a.length vs = a ++ vs ++ c := by
  induction vs with
  | nil => intro a b c h; rw [List.eq_nil_of_length_eq_zero h]; rfl
  | cons v r ih =>
    intro a b c h
    match b, h with
    | x :: b', h =>
      have e : (a ++ x :: b' ++ c).set a.length v = (a ++ [v]) ++ b' ++ c := by simp
      have e2 : a.length + 1 = (a ++ [v]).length := by simp
      rw [setsAt, e, e2, ih (a ++ [v]) b' c (by simpa using h)]
      simp

theorem setsAt_flat {α : Type} (E : Enc α) (zs : List α) (k : Nat) (x : α) (hk : k < zs.length) : setsAt (zs.flatMap E.cells) (k * E.k) (E.cells x) = (zs.set k x).flatMap E.cells := by
  have h1 : zs = zs.take k ++ (zs[k] :: zs.drop (k + 1)) := by rw [← List.drop_eq_getElem_cons hk, List.take_append_drop]
  have h2 : zs.set k x = zs.take k ++ (x :: zs.drop (k + 1)) := by rw [List.set_eq_take_append_cons_drop, if_pos hk]
  rw [h2]
  conv => lhs; rw [h1]
  simp only [List.flatMap_append, List.flatMap_cons]
  have hl : k * E.k = ((zs.take k).flatMap E.cells).length := by rw [flat_len, List.length_take, Nat.min_eq_left (by omega)]
  rw [hl, ← List.append_assoc, setsAt_mid _ _ _ _ (by rw [E.len, E.len]), List.append_assoc]

theorem own_setCells {base : Nat} {e : TypeId} {size g n cap : Nat} (vs : List Value) : ∀ {w : World} {xs : List Value} (o : Nat), w.ownsRow base e size (.slice (some ⟨g, 0, none⟩) n cap) n xs →
    (w.setCells g o vs).ownsRow base e size (.slice (some ⟨g, 0, none⟩) n cap) n (setsAt xs o vs) := by
  induction vs with
  | nil => intro w xs o h; exact h
  | cons v r ih => intro w xs o h; rw [World.setCells, setsAt]; exact ih (o + 1) (h.stored o v).1

theorem below_setCells {B g : Nat} (hB : B ≤ g) (vs : List Value) : ∀ {a w : World} (o : Nat), Below B a w → Below B a (w.setCells g o vs) := by
  induction vs with
  | nil => intro a w o h; exact h
  | cons v r ih => intro a w o h; rw [World.setCells]; exact ih (o + 1) (h.setCell hB v)

/-- A row of n places (capacity c) of the call's own, of which the first k are filled as l is. -/
def PartV {α : Type} (E : Enc α) (et : TypeId) (base : Nat) (A : Option Addr) (n c : Nat) (l : List α) (k : Nat) (w : World) : Prop :=
  ∃ zs : List α, zs.length = n ∧ zs.take k = l.take k ∧ w.ownsRow base et E.k (.slice A n c) n (zs.flatMap E.cells)
abbrev Part {α : Type} (E : Enc α) (et : TypeId) (base g n : Nat) (l : List α) (k : Nat) (w : World) : Prop := PartV E et base (some ⟨g, 0, none⟩) n n l k w

theorem toList_madeCells {α : Type} (E : Enc α) {z : Array Value} {x : α} (hx : E.cells x = z.toList) (n : Nat) : (madeCells z (n * E.k)).toList = (List.replicate n x).flatMap E.cells := by
  have hz : z.size = E.k := by rw [← E.len x, hx]; simp
  apply List.ext_getElem?
  intro j
  by_cases hj : j < n * E.k
  · have hn : j / E.k < n := (Nat.div_lt_iff_lt_mul E.pos).2 hj
    have hm : j % E.k < E.k := Nat.mod_lt _ E.pos
    have hu : (E.cells x)[j % E.k]? = some z[j % E.k] := by rw [hx]; simp [hz, hm]
    have h1 := flat_get E (List.replicate n x) (j / E.k) x (by simp [hn]) (j % E.k) _ hu
    rw [Nat.div_add_mod'] at h1
    rw [h1]
    simp [madeCells, hj, hz, hm]
  · rw [List.getElem?_eq_none (by simp [size_madeCells]; omega), List.getElem?_eq_none (by rw [flat_len]; simp; omega)]

section
variable {α : Type} {E : Enc α} {et : TypeId} {base g n c : Nat} {A : Option Addr} {l : List α} {k : Nat} {w w' : World}

theorem Part.made {z : Array Value} {x : α} (hx : E.cells x = z.toList) (hb : base ≤ w.heap.size) (hm : n ≤ maxLen) : Part E et base w.heap.size n l 0 (w.alloc (.cells (madeCells z (n * E.k)) et)) := by
  refine ⟨List.replicate n x, by simp, rfl, ?_⟩
  have h := World.ownsRow_lit (base := base) (e := et) (size := E.k) w (madeCells z (n * E.k)) n hb hm (by rw [size_madeCells])
  rw [toList_madeCells E hx] at h
  exact h

theorem Part.made1 {z : Value} {x : α} (hE : E.k = 1) (hx : E.cells x = [z]) (hb : base ≤ w.heap.size) (hm : n ≤ maxLen) : Part E et base w.heap.size n l 0 (w.alloc (.cells (madeCells #[z] n) et)) := by
  refine ⟨List.replicate n x, by simp, rfl, ?_⟩
  have h := World.ownsRow_lit (base := base) (e := et) (size := 1) w (madeCells #[z] n) n hb hm (by rw [size_madeCells]; omega)
  rw [toList_madeCells_one] at h
  have e : (List.replicate n x).flatMap E.cells = List.replicate n z := by
    clear h
    induction n with
    | zero => rfl
    | succ n ih => rw [List.replicate_succ, List.flatMap_cons, ih (by omega), hx]; rfl
  rw [e, hE]
  exact h

theorem PartV.sets (h : PartV E et base (some ⟨g, 0, none⟩) n c l k w) {x : α} (hx : l[k]? = some x) (hk : k < n) : PartV E et base (some ⟨g, 0, none⟩) n c l (k + 1) (w.setCells g (k * E.k) (E.cells x)) := by
  obtain ⟨zs, hz, ht, ho⟩ := h
  refine ⟨zs.set k x, by simpa using hz, ?_, ?_⟩
  · rw [take_of_get hx, List.set_eq_take_append_cons_drop, if_pos (by omega), ← ht, List.take_append, List.length_take, Nat.min_eq_left (by omega), Nat.add_sub_cancel_left, List.take_of_length_le (by simp; omega)]
    rfl
  · have := own_setCells (E.cells x) (k * E.k) ho
    rw [setsAt_flat E zs k x (by omega)] at this
    exact this

theorem PartV.set1 {u : Value} (h : PartV E et base (some ⟨g, 0, none⟩) n c l k w) {x : α} (hx : l[k]? = some x) (hk : k < n) (hE : E.k = 1) (hu : E.cells x = [u]) : PartV E et base (some ⟨g, 0, none⟩) n c l (k + 1) (w.setCell ⟨g, k, none⟩ u) := by
  have := h.sets hx hk
  rw [hE, hu, Nat.mul_one] at this
  exact this

theorem PartV.cell (h : PartV E et base (some ⟨g, 0, none⟩) n c l k w) {j : Nat} (hj : j < n * E.k) : ∃ u, w.cell? ⟨g, j, none⟩ = some u := by
  obtain ⟨zs, hz, _, ho⟩ := h
  have hl : j < (zs.flatMap E.cells).length := by rw [flat_len, hz]; exact hj
  exact ⟨_, (ho.cellAt j hj).trans (List.getElem?_eq_getElem hl)⟩
theorem PartV.free (h : PartV E et base (some ⟨g, 0, none⟩) n c l k w) (j : Nat) : w.frozen? ⟨g, j, none⟩ = false := by
  obtain ⟨zs, hz, _, ho⟩ := h
  exact ho.frozenAt j
theorem PartV.there (h : PartV E et base (some ⟨g, 0, none⟩) n c l k w) {o m : Nat} (hj : o + m ≤ n * E.k) : w.there g o m := fun j hj' => by
  obtain ⟨u, hu⟩ := h.cell (j := o + j) (by omega)
  exact ⟨by rw [hu]; rfl, h.free _⟩
theorem PartV.below (h : PartV E et base A n c l k w) (hb : Below w.heap.size w w') : PartV E et base A n c l k w' := by
  obtain ⟨zs, hz, ht, ho⟩ := h
  exact ⟨zs, hz, ht, own_below ho hb⟩
theorem PartV.base_le (h : PartV E et base (some ⟨g, 0, none⟩) n c l k w) : base ≤ g := by
  obtain ⟨zs, hz, ht, ho⟩ := h
  exact (ho.lt g rfl).1
theorem PartV.done (h : PartV E et base A n c l k w) (hl : l.length = n) (hk : n ≤ k) : w.ownsRow base et E.k (.slice A n c) n (l.flatMap E.cells) := by
  obtain ⟨zs, hz, ht, ho⟩ := h
  rw [List.take_of_length_le (by omega), List.take_of_length_le (by omega)] at ht
  subst ht
  exact ho
theorem PartV.form (h : PartV E et base A n c l k w) (hn : 0 < n) : ∃ g, A = some ⟨g, 0, none⟩ := by
  obtain ⟨zs, _, _, ho⟩ := h
  obtain ⟨g, cap, hv, _, _⟩ := ho.form hn
  injection hv with hA
  exact ⟨g, hA⟩
theorem PartV.start {xs : List α} (h : w.ownsRow base et E.k (.slice A n c) n (xs.flatMap E.cells)) (hx : xs.length = n) : PartV E et base A n c l 0 w := ⟨xs, hx, rfl, h⟩
end

theorem own_cell {w : World} {base : Nat} {e : TypeId} {size g n cap : Nat} {xs : List Value} (h : w.ownsRow base e size (.slice (some ⟨g, 0, none⟩) n cap) n xs) {j : Nat} (hj : j < n * size) : ∃ u, w.cell? ⟨g, j, none⟩ = some u :=
  ⟨_, (h.cellAt j hj).trans (List.getElem?_eq_getElem (by rw [h.1]; exact hj))⟩
theorem PartV.of_sets {α : Type} {E : Enc α} {et : TypeId} {base g n c : Nat} {l zs : List α} {k : Nat} {w : World} (hz : zs.length = n) (ht : zs.take k = l.take k) {x : α} (hx : l[k]? = some x) (hk : k < n)
    (ho : w.ownsRow base et E.k (.slice (some ⟨g, 0, none⟩) n c) n (setsAt (zs.flatMap E.cells) (k * E.k) (E.cells x))) : PartV E et base (some ⟨g, 0, none⟩) n c l (k + 1) w := by
  refine ⟨zs.set k x, by simpa using hz, ?_, ?_⟩
  · rw [take_of_get hx, List.set_eq_take_append_cons_drop, if_pos (by omega), ← ht, List.take_append, List.length_take, Nat.min_eq_left (by omega), Nat.add_sub_cancel_left, List.take_of_length_le (by simp; omega)]
    rfl
  · rw [setsAt_flat E zs k x (by omega)] at ho
    exact ho

/-- Old blocks outside F are as they were. -/
structure Touch (F : Nat → Prop) (w w' : World) : Prop where
  os : w'.os = w.os
  tape : w'.tape = w.tape
  output : w'.output = w.output
  size : w.heap.size ≤ w'.heap.size
  block : ∀ k, k < w.heap.size → ¬ F k → w'.heap[k]? = w.heap[k]?

section
variable {F G : Nat → Prop} {w w' w'' : World}
theorem Touch.refl (F : Nat → Prop) (w : World) : Touch F w w := ⟨rfl, rfl, rfl, Nat.le_refl _, fun _ _ _ => rfl⟩
theorem Touch.trans (h : Touch F w w') (h' : Touch F w' w'') : Touch F w w'' :=
  ⟨h'.os.trans h.os, h'.tape.trans h.tape, h'.output.trans h.output, Nat.le_trans h.size h'.size, fun k hk hF => (h'.block k (Nat.lt_of_lt_of_le hk h.size) hF).trans (h.block k hk hF)⟩
theorem Touch.mono (h : Touch F w w') (hFG : ∀ k, F k → G k) : Touch G w w' := ⟨h.os, h.tape, h.output, h.size, fun k hk hG => h.block k hk fun hF => hG (hFG k hF)⟩
theorem Touch.of_below (h : Below w.heap.size w w') : Touch F w w' := ⟨h.os, h.tape, h.output, h.size, fun k hk _ => h.block k hk⟩
theorem Touch.setCell {p : Addr} (hp : F p.block) (u : Value) : Touch F w (w.setCell p u) :=
  ⟨rfl, rfl, rfl, by simp [World.setCell], fun k _ hF => Below.heap_setCell _ _ _ _ fun e => hF (by rw [e]; exact hp)⟩
theorem Touch.setCells {g : Nat} (hp : F g) (vs : List Value) : ∀ {w : World} (o : Nat), Touch F w (w.setCells g o vs) := by
  induction vs with
  | nil => intro w o; exact Touch.refl F w
  | cons v r ih => intro w o; rw [World.setCells]; exact (Touch.setCell (p := ⟨g, o, none⟩) hp v).trans (ih (o + 1))
theorem Below.touch {B : Nat} {w0 : World} (h : Below B w0 w) (ht : Touch F w w') (hF : ∀ k, F k → B ≤ k) (hB : B ≤ w.heap.size) : Below B w0 w' :=
  h.trans ⟨ht.os, ht.tape, ht.output, ht.size, fun k hk => ht.block k (by omega) fun hk' => by have := hF k hk'; omega⟩
theorem touch_cell {p : Addr} {v : Value} (ht : Touch F w w') (hF : ¬ F p.block) (h : w.cell? p = some v) : w'.cell? p = some v := by
  rw [World.cell?_of_block (ht.block p.block (World.block_lt_of_cell? w _ h) hF)]
  exact h
theorem own_touch {base : Nat} {e : TypeId} {size : Nat} {v : Value} {n : Nat} {xs : List Value} (h : w.ownsRow base e size v n xs) (ht : Touch F w w') (hF : ∀ k, v.ownBlock = some k → ¬ F k) : w'.ownsRow base e size v n xs := by
  refine ⟨h.1, ?_⟩
  rcases h.2 with h' | ⟨g, cap, cur, rfl, hb, hg, r⟩
  · exact .inl h'
  · exact .inr ⟨g, cap, cur, rfl, hb, (ht.block g (Array.getElem?_eq_some_iff.1 hg).1 (hF g rfl)).trans hg, r⟩
end

/-- An owned list: the value '.slice A n c' holds l, its block lies in F. -/
def OL {α : Type} (E : Enc α) (et : TypeId) (F : Nat → Prop) (w : World) (A : Option Addr) (n c : Nat) (l : List α) : Prop :=
  w.ownsRow 0 et E.k (.slice A n c) n (l.flatMap E.cells) ∧ l.length = n ∧ ∀ k, Value.ownBlock (.slice A n c) = some k → F k

section
variable {α : Type} {E : Enc α} {et : TypeId} {F G : Nat → Prop} {w w' : World} {A : Option Addr} {n c : Nat} {l : List α}
theorem OL.below (h : OL E et F w A n c l) (hb : Below w.heap.size w w') : OL E et F w' A n c l := ⟨own_below h.1 hb, h.2⟩
theorem OL.touch (h : OL E et F w A n c l) (ht : Touch G w w') (hd : ∀ k, F k → ¬ G k) : OL E et F w' A n c l := ⟨own_touch h.1 ht fun k hk => hd k (h.2.2 k hk), h.2⟩
theorem OL.rd (h : OL E et F w A n c l) : Rd E w A n l := Rd.of_own h.1 h.2.1
theorem OL.max (h : OL E et F w A n c l) : n ≤ maxLen := by
  rcases h.1.2 with ⟨h', h0⟩ | ⟨g, cap, cur, h', _, _, hnc, hcm, _⟩
  · rw [h0]; exact Nat.zero_le _
  · exact Nat.le_trans hnc hcm
theorem OL.of_own {base : Nat} (h : w.ownsRow base et E.k (.slice A n c) n (l.flatMap E.cells)) (hl : l.length = n) : ∃ F : Nat → Prop, (∀ k, F k → base ≤ k ∧ k < w.heap.size) ∧ OL E et F w A n c l :=
  ⟨fun k => Value.ownBlock (.slice A n c) = some k, fun k hk => h.lt k hk, ⟨h.1, by
    rcases h.2 with h' | ⟨g, cap, cur, h', _, r⟩
    · exact .inl h'
    · exact .inr ⟨g, cap, cur, h', Nat.zero_le _, r⟩⟩, hl, fun k hk => hk⟩
end

theorem range_new (w : World) (cs : Array Value) (t : TypeId) : (w.alloc (.cells cs t)).rangeAt w.heap.size 0 cs.toList := fun j v hv => by
  rw [cell_of_row _ _ _ cs t (0, 0) (heap_alloc_new w _), Nat.zero_add]
  simpa using hv

/-- A text is its bytes. -/
theorem ba_ext {a b : ByteArray} (h : a.data.toList = b.data.toList) : a = b := by
  cases a; cases b
  simp only [ByteArray.mk.injEq]
  exact Array.toList_inj.1 h
theorem ba_app (a b : ByteArray) : (a ++ b).data.toList = a.data.toList ++ b.data.toList := by simp
theorem ba_size (a : ByteArray) : a.size = a.data.toList.length := by simp
theorem ba_app_size (a b : ByteArray) : (a ++ b).size = a.size + b.size := by simp

/-- a contract that leaves the world alone, inside a region that draws -/
theorem quiet_left {P : Program} {f : FuncId} {args : Array Value} {w : World} {n : Nat} {v : Value}
    (h : Calls P f args (w.drewN n) fun e w' => e = .returned v ∧ w.drewN n = w') : Calls P f args (w.drewN n) fun e w'' => e = .returned v ∧ ∃ m, w'' = w.drewN m :=
  h.mono fun _ _ hh => ⟨hh.1, n, hh.2.symm⟩

/-- A world of a class. -/
structure Wd (S : World → Prop) where
  w : World
  h : S w
/-- One walk, in the order of the text, of a region that draws its order: each operation yields one value in every world of the class S, calls may make memory. -/
theorem wp_region_class {P : Program} {id : Nat} {Q : Exit → Act → World → Prop} {a : Act} {w : World} {l : List Oper} (S : World → Prop) (hm : P.follows .mixedOrders = true) (hB : Region.lexB .any l.toArray = true) (hS : S w.drew)
    (h : wpQuiet P l.toArray (fun w' => ∃ t : Wd S, w' = t.w) (fun a' => ∀ w', (∃ t : Wd S, w' = t.w) → Q .normal a' w') l a) : (Code.region id l.toArray true).wp P Q a w :=
  wp_region_quiet (C := fun w' => ∃ t : Wd S, w' = t.w) hm hB ⟨⟨_, hS⟩, rfl⟩ h
/-- a call inside such a region -/
theorem class_call {P : Program} {f : FuncId} {args : Array Value} {S : World → Prop} {v : Value} {R : Ending → World → Prop} (t : Wd S) (h : Calls P f args t.w R) (hr : ∀ e w', R e w' → e = .returned v ∧ S w') :
    Calls P f args t.w fun e w'' => e = .returned v ∧ ∃ t' : Wd S, w'' = t'.w :=
  h.mono fun e w' hh => ⟨(hr e w' hh).1, ⟨w', (hr e w' hh).2⟩, rfl⟩

theorem class_same {P : Program} {f : FuncId} {args : Array Value} {S : World → Prop} {v : Value} (t : Wd S) (h : Calls P f args t.w fun e w' => e = .returned v ∧ t.w = w') :
    Calls P f args t.w fun e w'' => e = .returned v ∧ ∃ t' : Wd S, w'' = t'.w :=
  h.mono fun _ _ hh => ⟨hh.1, t, hh.2.symm⟩

theorem ret_int {k : IntKind} {a b : Int} (h : a = b) : Ending.returned (.int k a) = .returned (.int k b) := by rw [h]
theorem ret_bool {a b : Bool} (h : a = b) : Ending.returned (.bool a) = .returned (.bool b) := by rw [h]

end Go.Proofs.YtbdjhecbingcjaaGreatDoor
