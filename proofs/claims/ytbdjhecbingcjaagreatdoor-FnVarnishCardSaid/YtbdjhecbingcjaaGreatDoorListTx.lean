/- Plain law: the text of a list of numbers, and that it is the one text with that list. Nothing here speaks of the program. The text of a visit: four words; it tells the kind. Nothing here speaks of the program. -/
import Derived.Test.YtbdjhecbingcjaaGreatDoorNums
namespace Go.Proofs.YtbdjhecbingcjaaGreatDoor
set_option linter.unusedVariables false
set_option linter.unusedSimpArgs false
set_option linter.unusedSectionVars false
open Go.Lib

/-- the text of a list of numbers -/
def textL (ns : List Int) : List UInt8 := if ns = [] then [45] else joinC 44 (ns.map itoa)
theorem digits_len : ∀ (k u : Nat), 1 ≤ k → u < 10 ^ k → (decDigits u).length ≤ k := by
  intro k
  induction k with
  | zero => intro u h; omega
  | succ k ih =>
    intro u _ hu
    by_cases h : u < 10
    · rw [decDigits_one h]; simp
    · rw [decDigits_big h]
      have hk : 1 ≤ k := by
        cases k with
        | zero => rw [Nat.pow_one] at hu; omega
        | succ k => omega
      have := ih (u / 10) hk (by rw [Nat.pow_succ] at hu; omega)
      simp only [List.length_append, List.length_cons, List.length_nil]
      omega
theorem num_itoa {n : Int} (h : -1000000000000 ≤ n ∧ n ≤ 1000000000000) : numL (itoa n) = some n := by
  refine num_of_itoa ?_ rfl
  rw [trim45]
  unfold itoa
  by_cases hn : n < 0
  · rw [if_pos hn]
    simp only [if_true]
    have := digits_len 13 n.natAbs (by omega) (by have : (10 : Nat) ^ 13 = 10000000000000 := by decide
                                                  omega)
    omega
  · rw [if_neg hn]
    have := digits_len 13 n.toNat (by omega) (by have : (10 : Nat) ^ 13 = 10000000000000 := by decide
                                                 omega)
    split
    · simp
    · rename_i c r e
      rw [e] at this
      split
      · simp at this; omega
      · omega
theorem itoa_bytes (n : Int) (h : -1000000000000 ≤ n ∧ n ≤ 1000000000000) : ∀ c ∈ itoa n, c = 45 ∨ (48 ≤ c.toNat ∧ c.toNat ≤ 57) := num_bytes (num_itoa h)
theorem itoa_ne (n : Int) : itoa n ≠ [] := by
  unfold itoa
  split
  · simp
  · exact decDigits_ne _
theorem itoa_no {n : Int} (h : -1000000000000 ≤ n ∧ n ≤ 1000000000000) {c : UInt8} (hc : c.toNat < 45 ∨ c.toNat = 46 ∨ c.toNat = 47 ∨ 57 < c.toNat) : c ∉ itoa n := fun hm => by
  rcases itoa_bytes n h c hm with e | e
  · subst e; rcases hc with h | h | h | h <;> simp at h
  · omega
theorem numIn_itoa {n : Int} (h : -1000000000000 ≤ n ∧ n ≤ 1000000000000) : numIn (itoa n) = some n := by
  unfold numIn
  rw [num_itoa h]
  simp only [if_pos h]
theorem numsOf_itoa {ns : List Int} (h : ∀ n ∈ ns, -1000000000000 ≤ n ∧ n ≤ 1000000000000) : numsOf (ns.map itoa) = some ns := by
  induction ns with
  | nil => rfl
  | cons n r ih =>
    simp only [List.map_cons, numsOf, numIn_itoa (h n (List.mem_cons_self ..)), ih fun x hx => h x (List.mem_cons_of_mem _ hx)]
theorem cuts_text {ns : List Int} (hne : ns ≠ []) (h : ∀ n ∈ ns, -1000000000000 ≤ n ∧ n ≤ 1000000000000) : cutsL 44 (textL ns) = ns.map itoa := by
  unfold textL
  rw [if_neg hne]
  refine cuts_join (by simpa using hne) fun p hp => ?_
  obtain ⟨n, hn, rfl⟩ := List.mem_map.1 hp
  exact itoa_no (h n hn) (.inl (by decide))
theorem list_text {ns : List Int} (h : ∀ n ∈ ns, -1000000000000 ≤ n ∧ n ≤ 1000000000000) (hl : ns.length ≤ 64) : listL (textL ns) = some ns := by
  unfold listL
  by_cases hne : ns = []
  · subst hne; rfl
  · have h45 : textL ns ≠ [45] := fun e => by
      have h1 := cuts_text hne h
      rw [e] at h1
      cases ns with
      | nil => exact hne rfl
      | cons n r =>
        have h2 : itoa n = [45] := by
          have : cutsL 44 [45] = [[45]] := by decide
          rw [this] at h1
          simp only [List.map_cons, List.cons.injEq] at h1
          exact h1.1.symm
        have h3 := num_itoa (h n (List.mem_cons_self ..))
        rw [h2] at h3
        simp [numL, decNat] at h3
    rw [if_neg h45, cuts_text hne h, if_neg (by simpa using hl)]
    exact numsOf_itoa h
theorem text_of_nums {ps : List (List UInt8)} : ∀ {ns : List Int}, numsOf ps = some ns → ns.map itoa = ps := by
  induction ps with
  | nil => intro ns h; simp only [numsOf, Option.some.injEq] at h; subst h; rfl
  | cons p r ih =>
    intro ns h
    simp only [numsOf] at h
    cases h1 : numIn p with
    | none => rw [h1] at h; cases h
    | some m =>
      cases h2 : numsOf r with
      | none => rw [h1, h2] at h; cases h
      | some t =>
        rw [h1, h2] at h
        simp only [Option.some.injEq] at h
        subst h
        rw [List.map_cons, ih h2, (itoa_of_num (numIn_range h1).2.2).2.1]
theorem text_of_list {t : List UInt8} {ns : List Int} (h : listL t = some ns) : textL ns = t := by
  unfold listL at h
  split at h
  · rename_i e; injection h with h; subst h; rw [e]; rfl
  · split at h
    · cases h
    · have h1 := text_of_nums h
      have hne : ns ≠ [] := fun e => by
        subst e
        exact cutsL_ne 44 t h1.symm
      unfold textL
      rw [if_neg hne, h1, join_cuts]
theorem textL_noblank {ns : List Int} (h : ∀ n ∈ ns, -1000000000000 ≤ n ∧ n ≤ 1000000000000) : (32 : UInt8) ∉ textL ns := fun hm => by
  unfold textL at hm
  split at hm
  · simp at hm
  · rcases mem_joinC hm with e | ⟨p, hp, hc⟩
    · exact absurd e (by decide)
    · obtain ⟨n, hn, rfl⟩ := List.mem_map.1 hp
      exact itoa_no (h n hn) (.inl (by decide)) hc
/-- the words of a text: its pieces that are not empty -/
def wordsL (l : List UInt8) : List (List UInt8) := (cutsL 32 l).filter fun p => !p.isEmpty
theorem words_of_join {ps : List (List UInt8)} (hne : ps ≠ []) (h : ∀ p ∈ ps, (32 : UInt8) ∉ p ∧ p ≠ []) : wordsL (joinC 32 ps) = ps := by
  unfold wordsL
  rw [cuts_join hne fun p hp => (h p hp).1]
  refine List.filter_eq_self.2 fun p hp => ?_
  have := (h p hp).2
  cases p with
  | nil => exact absurd rfl this
  | cons x y => rfl
theorem ba_app' (a b : ByteArray) : (a ++ b).data.toList = a.data.toList ++ b.data.toList := by simp
theorem itoa_small' {n : Int} (h : -1000000000000 ≤ n ∧ n ≤ 1000000000000) : (itoa n).length ≤ 19 := by
  have h1 := (itoa_of_num (num_itoa h)).1
  rw [trim45] at h1
  cases hi : itoa n with
  | nil => simp
  | cons c r =>
    rw [hi] at h1
    simp only at h1
    split at h1
    · simp; omega
    · simp at h1 ⊢; omega
def kRepair : ByteArray := ⟨#[114, 101, 112, 97, 105, 114]⟩
def kRental : ByteArray := ⟨#[114, 101, 110, 116, 97, 108]⟩
def kSale : ByteArray := ⟨#[115, 97, 108, 101]⟩
def kTune : ByteArray := ⟨#[116, 117, 110, 101]⟩
def kindN (k : Int) : ByteArray := if k = 1 then kRepair else if k = 2 then kRental else if k = 3 then kSale else if k = 4 then kTune else ⟨#[]⟩
theorem kind_cases {k : Int} (h : 1 ≤ k ∧ k ≤ 4) : (k = 1 ∧ kindN k = kRepair) ∨ (k = 2 ∧ kindN k = kRental) ∨ (k = 3 ∧ kindN k = kSale) ∨ (k = 4 ∧ kindN k = kTune) := by
  have h4 : k = 1 ∨ k = 2 ∨ k = 3 ∨ k = 4 := by omega
  rcases h4 with rfl | rfl | rfl | rfl
  · exact .inl ⟨rfl, rfl⟩
  · exact .inr (.inl ⟨rfl, rfl⟩)
  · exact .inr (.inr (.inl ⟨rfl, rfl⟩))
  · exact .inr (.inr (.inr ⟨rfl, rfl⟩))
theorem kind_word {k : Int} (h : 1 ≤ k ∧ k ≤ 4) : (32 : UInt8) ∉ (kindN k).data.toList ∧ (kindN k).data.toList ≠ [] ∧ (kindN k).size ≤ 6 := by
  rcases kind_cases h with ⟨_, e⟩ | ⟨_, e⟩ | ⟨_, e⟩ | ⟨_, e⟩ <;> rw [e] <;> decide
theorem kind_inj {k j : Int} (h : 1 ≤ k ∧ k ≤ 4) (h' : 1 ≤ j ∧ j ≤ 4) (e : kindN k = kindN j) : k = j := by
  have d : ∀ a b : Nat, 1 ≤ a → a ≤ 4 → 1 ≤ b → b ≤ 4 → (kindN (a : Int)).data.toList = (kindN (b : Int)).data.toList → a = b := by
    intro a b h1 h2 h3 h4
    have h5 : a = 1 ∨ a = 2 ∨ a = 3 ∨ a = 4 := by omega
    have h6 : b = 1 ∨ b = 2 ∨ b = 3 ∨ b = 4 := by omega
    rcases h5 with rfl | rfl | rfl | rfl <;> rcases h6 with rfl | rfl | rfl | rfl <;> decide
  have h1 := d k.toNat j.toNat (by omega) (by omega) (by omega) (by omega) (by
    rw [show ((k.toNat : Nat) : Int) = k by omega, show ((j.toNat : Nat) : Int) = j by omega, e])
  omega
def vText (d : Int) (s : ByteArray) (k a : Int) : ByteArray := ofL (itoa d) ++ ⟨#[32]⟩ ++ s ++ ⟨#[32]⟩ ++ kindN k ++ ⟨#[32]⟩ ++ ofL (itoa a)
theorem vText_data (d : Int) (s : ByteArray) (k a : Int) : (vText d s k a).data.toList = joinC 32 [itoa d, s.data.toList, (kindN k).data.toList, itoa a] := by
  unfold vText
  simp only [ba_app', ofL_data, joinC, List.append_assoc, List.cons_append, List.nil_append]
theorem vText_words {d a : Int} {s : ByteArray} {k : Int} (hd : -1000000000000 ≤ d ∧ d ≤ 1000000000000) (ha : -1000000000000 ≤ a ∧ a ≤ 1000000000000) (hs : (32 : UInt8) ∉ s.data.toList ∧ s.data.toList ≠ []) (hk : 1 ≤ k ∧ k ≤ 4) :
    wordsL (vText d s k a).data.toList = [itoa d, s.data.toList, (kindN k).data.toList, itoa a] := by
  rw [vText_data]
  refine words_of_join (by simp) fun p hp => ?_
  simp only [List.mem_cons, List.mem_nil_iff, or_false] at hp
  rcases hp with rfl | rfl | rfl | rfl
  · exact ⟨itoa_no hd (.inl (by decide)), itoa_ne d⟩
  · exact hs
  · exact ⟨(kind_word hk).1, (kind_word hk).2.1⟩
  · exact ⟨itoa_no ha (.inl (by decide)), itoa_ne a⟩
theorem vText_kind {d a : Int} {s : ByteArray} {k j : Int} (hd : -1000000000000 ≤ d ∧ d ≤ 1000000000000) (ha : -1000000000000 ≤ a ∧ a ≤ 1000000000000) (hs : (32 : UInt8) ∉ s.data.toList ∧ s.data.toList ≠ []) (hk : 1 ≤ k ∧ k ≤ 4) (hj : 1 ≤ j ∧ j ≤ 4)
    (e : vText d s k a = vText d s j a) : k = j := by
  have h1 := vText_words hd ha hs hk
  rw [e, vText_words hd ha hs hj] at h1
  simp only [List.cons.injEq, true_and] at h1
  refine kind_inj hk hj ?_
  rw [← ofL_self (kindN k), ← ofL_self (kindN j), h1.1]
end Go.Proofs.YtbdjhecbingcjaaGreatDoor
