/- Plain law: a text cut at each byte c; what strings.Split and strings.Cut give at one byte. Nothing here speaks of the program. -/
import Derived.Lib.SplitLaws
import Derived.Lib.IndexMore
import Derived.Lib.Split
namespace Go.Proofs.YtbdjhecbingcjaaGreatDoor
set_option linter.unusedVariables false
set_option linter.unusedSimpArgs false
set_option linter.unusedSectionVars false
open Go.Lib

def consH (x : UInt8) : List (List UInt8) → List (List UInt8)
  | [] => [[x]]
  | p :: q => (x :: p) :: q
def preH (p : List UInt8) : List (List UInt8) → List (List UInt8)
  | [] => [p]
  | q :: r => (p ++ q) :: r
/-- the pieces of a text between the bytes c -/
def cutsL (c : UInt8) : List UInt8 → List (List UInt8)
  | [] => [[]]
  | x :: r => if x = c then [] :: cutsL c r else consH x (cutsL c r)
def ofL (l : List UInt8) : ByteArray := ⟨l.toArray⟩
theorem ofL_data (l : List UInt8) : (ofL l).data.toList = l := by simp [ofL]
theorem ofL_self (b : ByteArray) : ofL b.data.toList = b := by cases b; simp [ofL]
theorem ofL_inj {a b : List UInt8} (h : ofL a = ofL b) : a = b := by rw [← ofL_data a, h, ofL_data]
theorem ofL_size (l : List UInt8) : (ofL l).size = l.length := by simp [ofL, ByteArray.size]
def cutsB (c : UInt8) (s : ByteArray) : List ByteArray := (cutsL c s.data.toList).map ofL

theorem cutsL_hit (c : UInt8) (r : List UInt8) : cutsL c (c :: r) = [] :: cutsL c r := by rw [cutsL, if_pos rfl]
theorem cutsL_miss {c x : UInt8} (h : x ≠ c) (r : List UInt8) : cutsL c (x :: r) = consH x (cutsL c r) := by rw [cutsL, if_neg h]
theorem consH_len {x : UInt8} {l : List (List UInt8)} (h : l ≠ []) : (consH x l).length = l.length := by cases l with
  | nil => exact absurd rfl h
  | cons p q => rfl
theorem cutsL_ne (c : UInt8) (l : List UInt8) : cutsL c l ≠ [] := by
  cases l with
  | nil => simp [cutsL]
  | cons x r =>
    rw [cutsL]
    split
    · simp
    · cases cutsL c r <;> simp [consH]
theorem cutsL_len (c : UInt8) (l : List UInt8) : (cutsL c l).length = l.count c + 1 := by
  induction l with
  | nil => rfl
  | cons x r ih =>
    by_cases h : x = c
    · subst h; rw [cutsL_hit]; simp [ih]
    · rw [cutsL_miss h, consH_len (cutsL_ne c r), ih, List.count_cons_of_ne (by simpa using h)]
theorem preH_nil {l : List (List UInt8)} (h : l ≠ []) : preH [] l = l := by cases l with
  | nil => exact absurd rfl h
  | cons p q => rfl
theorem preH_cons (p : List UInt8) (x : UInt8) {l : List (List UInt8)} (h : l ≠ []) : preH p (consH x l) = preH (p ++ [x]) l := by cases l with
  | nil => exact absurd rfl h
  | cons q r => simp [preH, consH]
/-- the loop's step, at a byte c and at another -/
theorem cuts_hit {c : UInt8} {l : List UInt8} {out : List (List UInt8)} {p : List UInt8} {i : Nat} (hx : l[i]? = some c) (h : cutsL c l = out ++ preH p (cutsL c (l.drop i))) :
    cutsL c l = (out ++ [p]) ++ preH [] (cutsL c (l.drop (i + 1))) := by
  obtain ⟨hi, e⟩ := List.getElem?_eq_some_iff.1 hx
  rw [List.drop_eq_getElem_cons hi, e, cutsL_hit] at h
  rw [h, preH_nil (cutsL_ne _ _)]
  simp [preH]
theorem cuts_miss {c x : UInt8} {l : List UInt8} {out : List (List UInt8)} {p : List UInt8} {i : Nat} (hx : l[i]? = some x) (hc : x ≠ c) (h : cutsL c l = out ++ preH p (cutsL c (l.drop i))) :
    cutsL c l = out ++ preH (p ++ [x]) (cutsL c (l.drop (i + 1))) := by
  obtain ⟨hi, e⟩ := List.getElem?_eq_some_iff.1 hx
  rw [List.drop_eq_getElem_cons hi, e, cutsL_miss hc, preH_cons _ _ (cutsL_ne _ _)] at h
  exact h
theorem cuts_end {c : UInt8} {l : List UInt8} {out : List (List UInt8)} {p : List UInt8} {i : Nat} (hi : l.length ≤ i) (h : cutsL c l = out ++ preH p (cutsL c (l.drop i))) : cutsL c l = out ++ [p] := by
  rw [List.drop_eq_nil_of_le hi] at h
  simpa [cutsL, preH] using h

/-- pieces, with the byte between them -/
def joinC (c : UInt8) : List (List UInt8) → List UInt8
  | [] => []
  | [p] => p
  | p :: q :: r => p ++ c :: joinC c (q :: r)
theorem joinC_cons (c : UInt8) (p : List UInt8) {l : List (List UInt8)} (h : l ≠ []) : joinC c (p :: l) = p ++ c :: joinC c l := by cases l with
  | nil => exact absurd rfl h
  | cons q r => rfl
theorem joinC_consH (c x : UInt8) {l : List (List UInt8)} (h : l ≠ []) : joinC c (consH x l) = x :: joinC c l := by
  cases l with
  | nil => exact absurd rfl h
  | cons p q => cases q <;> rfl
theorem join_cuts (c : UInt8) (l : List UInt8) : joinC c (cutsL c l) = l := by
  induction l with
  | nil => rfl
  | cons x r ih =>
    by_cases h : x = c
    · subst h; rw [cutsL_hit, joinC_cons _ _ (cutsL_ne _ _), ih]; rfl
    · rw [cutsL_miss h, joinC_consH _ _ (cutsL_ne _ _), ih]
theorem cuts_none {c : UInt8} {l : List UInt8} (h : c ∉ l) : cutsL c l = [l] := by
  induction l with
  | nil => rfl
  | cons x r ih =>
    have hx : x ≠ c := fun e => h (by rw [e]; exact List.mem_cons_self ..)
    rw [cutsL_miss hx, ih (fun hm => h (List.mem_cons_of_mem _ hm))]
    rfl
theorem cuts_app {c : UInt8} {p : List UInt8} (h : c ∉ p) (l : List UInt8) : cutsL c (p ++ c :: l) = p :: cutsL c l := by
  induction p with
  | nil => exact cutsL_hit c l
  | cons x r ih =>
    have hx : x ≠ c := fun e => h (by rw [e]; exact List.mem_cons_self ..)
    rw [List.cons_append, cutsL_miss hx, ih (fun hm => h (List.mem_cons_of_mem _ hm))]
    rfl
theorem cuts_join {c : UInt8} : ∀ {l : List (List UInt8)}, l ≠ [] → (∀ p ∈ l, c ∉ p) → cutsL c (joinC c l) = l
  | [], h, _ => absurd rfl h
  | [p], _, hp => cuts_none (hp p (List.mem_cons_self ..))
  | p :: q :: r, _, hp => by
    rw [joinC, cuts_app (hp p (List.mem_cons_self ..)), cuts_join (by simp) (fun x hx => hp x (List.mem_cons_of_mem _ hx))]
theorem cuts_no (c : UInt8) (l : List UInt8) : ∀ p ∈ cutsL c l, c ∉ p := by
  induction l with
  | nil => intro p hp; simp [cutsL] at hp; subst hp; simp
  | cons x r ih =>
    intro p hp
    by_cases h : x = c
    · subst h
      rw [cutsL_hit] at hp
      rcases List.mem_cons.1 hp with rfl | hp
      · simp
      · exact ih p hp
    · rw [cutsL_miss h] at hp
      obtain ⟨a, b, e⟩ : ∃ a b, cutsL c r = a :: b := by
        cases hh : cutsL c r with
        | nil => exact absurd hh (cutsL_ne c r)
        | cons a b => exact ⟨a, b, rfl⟩
      rw [e] at hp ih
      rcases List.mem_cons.1 hp with rfl | hp
      · intro hm
        rcases List.mem_cons.1 hm with e' | hm
        · exact h e'.symm
        · exact ih a (List.mem_cons_self ..) hm
      · exact ih p (List.mem_cons_of_mem _ hp)

/-- strings.Split at one byte -/
theorem splitK_cuts (c : UInt8) (l : List UInt8) : splitK [c] 0 (count l [c]) l = cutsL c l := by
  induction l with
  | nil => rw [count_one]; rfl
  | cons x r ih =>
    by_cases h : x = c
    · subst h
      have hix : index (x :: r) [x] = 0 := by rw [index]; simp [List.isPrefixOf]
      rw [count_cons_eq, Nat.add_comm, splitK, if_neg (by rw [hix]; decide), hix, cutsL_hit, ← ih]
      simp
    · have hix : index (x :: r) [c] = if index r [c] == -1 then -1 else index r [c] + 1 := by
        have hp : ([c] : List UInt8).isPrefixOf (x :: r) = false := by simp [List.isPrefixOf, Ne.symm h]
        rw [index, hp]; simp
      rw [count_cons_ne x c r h, cutsL_miss h, ← ih]
      cases hk : count r [c] with
      | zero => rfl
      | succ k =>
        have hm : ¬ index r [c] = -1 := fun e => by rw [count_miss e] at hk; cases hk
        have hge := index_ge r [c]
        obtain ⟨j, hj⟩ : ∃ j : Nat, index r [c] = j := ⟨(index r [c]).toNat, by omega⟩
        have h2 : index (x :: r) [c] = ((j + 1 : Nat) : Int) := by rw [hix, if_neg (fun e => hm (beq_iff_eq.1 e)), hj]; omega
        rw [splitK, splitK, if_neg (by rw [h2, beq_iff_eq]; omega), if_neg (by rw [beq_iff_eq]; exact hm), h2, hj]
        simp [consH]
theorem map_data_inj {a b : List ByteArray} (h : a.map (·.data.toList) = b.map (·.data.toList)) : a = b := by
  have : ∀ x : List ByteArray, (x.map (·.data.toList)).map ofL = x := fun x => by
    rw [List.map_map]
    conv => rhs; rw [← List.map_id x]
    exact List.map_congr_left fun y _ => ofL_self y
  rw [← this a, h, this b]
theorem split_cuts (c : UInt8) (s : ByteArray) : splitB ⟨#[c]⟩ 0 (countB s ⟨#[c]⟩) s = cutsB c s := by
  apply map_data_inj
  rw [splitB_data]
  unfold cutsB
  rw [List.map_map, show ((fun b : ByteArray => b.data.toList) ∘ ofL) = id by funext l; exact ofL_data l, List.map_id]
  exact splitK_cuts c s.data.toList
theorem cutsB_len (c : UInt8) (s : ByteArray) : (cutsB c s).length = countB s ⟨#[c]⟩ + 1 := by
  rw [← split_cuts, splitB_all _ (by simp [ByteArray.size]) 0 _ s rfl]
/-- a text before and behind the first byte c -/
def headC (c : UInt8) (l : List UInt8) : List UInt8 := l.takeWhile (· != c)
def tailC (c : UInt8) (l : List UInt8) : List UInt8 := (l.dropWhile (· != c)).tail
theorem cut_one (c : UInt8) (l : List UInt8) : cut l [c] = (headC c l, tailC c l, decide (c ∈ l)) := by
  unfold cut headC tailC
  induction l with
  | nil => simp [index]
  | cons x r ih =>
    by_cases h : x = c
    · subst h
      have hix : index (x :: r) [x] = 0 := by rw [index]; simp [List.isPrefixOf]
      rw [hix]
      simp
    · have hix : index (x :: r) [c] = if index r [c] == -1 then -1 else index r [c] + 1 := by
        have hp : ([c] : List UInt8).isPrefixOf (x :: r) = false := by simp [List.isPrefixOf, Ne.symm h]
        rw [index, hp]; simp
      have hne : (x != c) = true := by simpa using h
      have hmem : decide (c ∈ x :: r) = decide (c ∈ r) := by simp [Ne.symm h]
      rw [List.takeWhile_cons_of_pos (p := fun y => y != c) hne, List.dropWhile_cons_of_pos (p := fun y => y != c) hne, hmem, hix]
      by_cases hm : index r [c] = -1
      · rw [if_pos (beq_iff_eq.2 hm), if_neg (by omega)]
        rw [hm, if_neg (by omega)] at ih
        simp only [Prod.mk.injEq] at ih ⊢
        exact ⟨by rw [← ih.1], ih.2⟩
      · have hge := index_ge r [c]
        rw [if_neg (fun e => hm (beq_iff_eq.1 e)), if_pos (by omega)]
        rw [if_pos (by omega)] at ih
        simp only [Prod.mk.injEq] at ih ⊢
        obtain ⟨j, hj⟩ : ∃ j : Nat, index r [c] = j := ⟨(index r [c]).toNat, by omega⟩
        rw [hj] at ih ⊢
        have e1 : ((j : Int) + 1).toNat = j + 1 := by omega
        rw [e1]
        simp only [Int.toNat_natCast] at ih
        refine ⟨by rw [← ih.1]; rfl, ?_, ih.2.2⟩
        rw [← ih.2.1]
        simp
theorem cuts_head {c : UInt8} {l : List UInt8} (h : c ∈ l) : cutsL c l = headC c l :: cutsL c (tailC c l) := by
  induction l with
  | nil => cases h
  | cons x r ih =>
    unfold headC tailC at *
    by_cases hx : x = c
    · subst hx
      rw [cutsL_hit]
      simp
    · have hne : (x != c) = true := by simpa using hx
      rw [List.takeWhile_cons_of_pos (p := fun y => y != c) hne, List.dropWhile_cons_of_pos (p := fun y => y != c) hne, cutsL_miss hx, ih (by rcases List.mem_cons.1 h with e | h; exact absurd e.symm hx; exact h)]
      rfl
end Go.Proofs.YtbdjhecbingcjaaGreatDoor
