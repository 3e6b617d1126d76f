/- Histories, and the merge of two versions: plain laws. -/
import Derived.Test.YtfabijhilfjkcaaMergeLaw
import Derived.Test.YtfabijhilfjkcaaStateOk
namespace Go.Proofs.Ytfabijhilfjkcaa
set_option linter.unusedVariables false
set_option linter.unusedSimpArgs false
set_option linter.unusedSectionVars false

structure DVersion where
  fNumber : Int
  fParent : Int
  fMemo : ByteArray
  fState : List DSetting
theorem st_chain : ∀ {l : List DSetting} {o : Option DSetting}, chainB okSett (fun x y => Op.bytesLess x.fName.toList y.fName.toList) o l = true → AscS (nmS l) ∧ (∀ p, o = some p → ∀ s ∈ nmS l, nlS p.fName s)
  | [], o, _ => ⟨List.Pairwise.nil, fun p _ s hs => by cases hs⟩
  | x :: r, o, h => by
    have h2 : chainB okSett (fun x y => Op.bytesLess x.fName.toList y.fName.toList) (some x) r = true := by
      cases o with
      | none => simp only [chainB, Bool.and_eq_true] at h; exact h.2
      | some z => simp only [chainB, Bool.and_eq_true] at h; exact h.2.2
    obtain ⟨a, b⟩ := st_chain h2
    refine ⟨List.pairwise_cons.2 ⟨fun s hs => b x rfl s hs, a⟩, fun p hp s hs => ?_⟩
    subst hp
    simp only [chainB, Bool.and_eq_true] at h
    have h3 : nlS p.fName x.fName := bl_iff.1 h.2.1
    rcases List.mem_cons.1 hs with e | e
    · rw [e]; exact h3
    · exact h3.trans (b x rfl s e)
theorem name_ne {s : ByteArray} (h : nameB s = true) : s ≠ ⟨#[]⟩ := fun e => by
  subst e
  unfold nameB at h
  rw [Bool.and_eq_true, Bool.and_eq_true] at h
  have := h.2.1
  rw [ByteArray.toList_eq] at this
  cases this
theorem OkSt.of {l : List DSetting} (h : stB l = true) : OkSt l := by
  have hm := st_mem h
  unfold stB at h
  rw [Bool.and_eq_true] at h
  refine ⟨(st_chain h.1).1, fun x hx => ?_⟩
  have h1 := hm.1 x hx
  unfold okSett at h1
  rw [Bool.and_eq_true] at h1
  exact ⟨(inB_spec h1.2).1, name_ne h1.1⟩
/-- version k + 1 is as it should be -/
def verB (k : Nat) (v : DVersion) : Bool := decide (v.fNumber = (k : Int) + 1) && (inB v.fParent 0 k && (memoB v.fMemo && stB v.fState))
def histF : Nat → List DVersion → Bool
  | _, [] => true
  | k, v :: r => verB k v && histF (k + 1) r
def histB (l : List DVersion) : Bool := histF 0 l && decide ((l.length : Int) ≤ 32)
def HC (l : List DVersion) (k : Nat) : Prop := histF 0 l = histF k (l.drop k)
theorem hc_zero (l : List DVersion) : HC l 0 := rfl
theorem hc_bad {l : List DVersion} {k : Nat} {x : DVersion} (h : HC l k) (hx : l[k]? = some x) (hb : verB k x = false) : histB l = false := by
  unfold HC at h
  unfold histB
  rw [h, drop_of_get hx, histF, hb, Bool.false_and, Bool.false_and]
theorem hc_next {l : List DVersion} {k : Nat} {x : DVersion} (h : HC l k) (hx : l[k]? = some x) (hb : verB k x = true) : HC l (k + 1) := by
  unfold HC at h ⊢
  rw [h, drop_of_get hx, histF, hb, Bool.true_and]
theorem hc_end {l : List DVersion} {n : Nat} (h : HC l n) (hl : l.length = n) : histB l = decide ((n : Int) ≤ 32) := by
  unfold HC at h
  unfold histB
  rw [h, List.drop_of_length_le (by omega), hl]
  rfl
structure OkHist (l : List DVersion) : Prop where
  each : ∀ (k : Nat) x, l[k]? = some x → verB k x = true
  few : l.length ≤ 32
theorem histF_get : ∀ {l : List DVersion} {q : Nat}, histF q l = true → ∀ (k : Nat) x, l[k]? = some x → verB (q + k) x = true
  | [], _, _, k, x, h => by simp at h
  | v :: r, q, h, k, x, hx => by
    simp only [histF, Bool.and_eq_true] at h
    cases k with
    | zero => simp at hx; subst hx; exact h.1
    | succ k =>
      have := histF_get h.2 k x (by simpa using hx)
      rwa [show q + 1 + k = q + (k + 1) by omega] at this
theorem OkHist.of {l : List DVersion} (h : histB l = true) : OkHist l := by
  unfold histB at h
  rw [Bool.and_eq_true, decide_eq_true_eq] at h
  refine ⟨fun k x hx => ?_, by omega⟩
  have := histF_get h.1 k x hx
  rwa [Nat.zero_add] at this
theorem OkHist.parent {l : List DVersion} (h : OkHist l) {k : Nat} {x : DVersion} (hx : l[k]? = some x) : 0 ≤ x.fParent ∧ x.fParent ≤ k := by
  have h1 := h.each k x hx
  unfold verB at h1
  simp only [Bool.and_eq_true] at h1
  exact inB_spec h1.2.1
theorem OkHist.state {l : List DVersion} (h : OkHist l) {k : Nat} {x : DVersion} (hx : l[k]? = some x) : stB x.fState = true := by
  have h1 := h.each k x hx
  unfold verB at h1
  simp only [Bool.and_eq_true] at h1
  exact h1.2.2.2
def parV (l : List DVersion) : List Nat := l.map fun x => x.fParent.toNat
theorem parV_get {l : List DVersion} {k : Nat} {x : DVersion} (hx : l[k]? = some x) : (parV l)[k]? = some x.fParent.toNat := by unfold parV; rw [List.getElem?_map, hx]; rfl
theorem OkHist.par {l : List DVersion} (h : OkHist l) : OkPar (parV l) := ⟨fun k p hp => by
  unfold parV at hp
  rw [List.getElem?_map] at hp
  obtain ⟨x, hx, rfl⟩ := Option.map_eq_some_iff.1 hp
  have := h.parent hx
  omega⟩
theorem parV_len (l : List DVersion) : (parV l).length = l.length := by simp [parV]
/-- the state of a version -/
def stAt (l : List DVersion) (q : Nat) : List DSetting := if q = 0 then [] else match l[q - 1]? with | some x => x.fState | none => []
theorem stAt_zero (l : List DVersion) : stAt l 0 = [] := rfl
theorem stAt_get {l : List DVersion} {q : Nat} {x : DVersion} (hq : 1 ≤ q) (hx : l[q - 1]? = some x) : stAt l q = x.fState := by unfold stAt; rw [if_neg (by omega), hx]
theorem OkHist.at {l : List DVersion} (h : OkHist l) (q : Nat) : stB (stAt l q) = true := by
  unfold stAt
  split
  · rfl
  · rcases hx : l[q - 1]? with _ | x
    · rfl
    · exact h.state hx
/-- what a merge of three states answers, and its code -/
def mergeV (base a b : List DSetting) : List DSetting × Int :=
  if conf3 base a b ≠ [] then ([], 6) else if 24 < (merged base a b (names3 base a b)).length then ([], 5) else (merged base a b (names3 base a b), 0)
theorem mergeV_conf {base a b : List DSetting} (h : conf3 base a b ≠ []) : mergeV base a b = ([], 6) := by unfold mergeV; rw [if_pos h]
theorem mergeV_full {base a b : List DSetting} (h : conf3 base a b = []) (h2 : 24 < (merged base a b (names3 base a b)).length) : mergeV base a b = ([], 5) := by unfold mergeV; rw [if_neg (by rw [h]; simp), if_pos h2]
theorem mergeV_ok {base a b : List DSetting} (h : conf3 base a b = []) (h2 : (merged base a b (names3 base a b)).length ≤ 24) : mergeV base a b = (merged base a b (names3 base a b), 0) := by unfold mergeV; rw [if_neg (by rw [h]; simp), if_neg (by omega)]
theorem mergeV_cases (base a b : List DSetting) : mergeV base a b = ([], 6) ∨ mergeV base a b = ([], 5) ∨ (mergeV base a b).2 = 0 := by
  unfold mergeV
  split
  · exact .inl rfl
  · split
    · exact .inr (.inl rfl)
    · exact .inr (.inr rfl)
theorem mergeV_len (base a b : List DSetting) : (mergeV base a b).1.length ≤ 24 := by
  unfold mergeV
  split
  · exact Nat.zero_le _
  · split
    · exact Nat.zero_le _
    · rename_i h; exact Nat.le_of_not_lt h
/-- a history with a further version -/
def addV (l : List DVersion) (parent : Int) (memo : ByteArray) (st : List DSetting) : List DVersion × Int :=
  if l.length = 32 then ([], 5) else (l ++ [⟨(l.length : Int) + 1, parent, memo, st⟩], 0)
def inV (l : List DVersion) (a : Int) : Bool := inB a 1 l.length
def mvV (l : List DVersion) (a b : Int) (memo : ByteArray) : List DVersion × Int :=
  if !(histB l && memoB memo) then ([], 1) else if !(inV l a && inV l b) then ([], 3) else
    let m := mergeV (stAt l (commonN (parV l) a.toNat b.toNat)) (stAt l a.toNat) (stAt l b.toNat)
    if m.2 ≠ 0 then ([], m.2) else addV l a memo m.1
theorem mvV_hist {l : List DVersion} {a b : Int} {memo : ByteArray} (h : histB l = false) : mvV l a b memo = ([], 1) := by unfold mvV; rw [h]; rfl
theorem mvV_memo {l : List DVersion} {a b : Int} {memo : ByteArray} (h : histB l = true) (h2 : memoB memo = false) : mvV l a b memo = ([], 1) := by unfold mvV; rw [h, h2]; rfl
theorem mvV_a {l : List DVersion} {a b : Int} {memo : ByteArray} (h : histB l = true) (h2 : memoB memo = true) (h3 : inV l a = false) : mvV l a b memo = ([], 3) := by unfold mvV; rw [h, h2, h3]; rfl
theorem mvV_b {l : List DVersion} {a b : Int} {memo : ByteArray} (h : histB l = true) (h2 : memoB memo = true) (h3 : inV l a = true) (h4 : inV l b = false) : mvV l a b memo = ([], 3) := by unfold mvV; rw [h, h2, h3, h4]; rfl
theorem mvV_code {l : List DVersion} {a b : Int} {memo : ByteArray} (h : histB l = true) (h2 : memoB memo = true) (h3 : inV l a = true) (h4 : inV l b = true) {m : List DSetting × Int} (hm : mergeV (stAt l (commonN (parV l) a.toNat b.toNat)) (stAt l a.toNat) (stAt l b.toNat) = m) (h5 : m.2 ≠ 0) : mvV l a b memo = ([], m.2) := by
  subst hm
  unfold mvV
  rw [h, h2, h3, h4]
  simp only [Bool.and_self, Bool.not_true, Bool.false_eq_true, if_false]
  rw [if_pos h5]
theorem mvV_ok {l : List DVersion} {a b : Int} {memo : ByteArray} (h : histB l = true) (h2 : memoB memo = true) (h3 : inV l a = true) (h4 : inV l b = true) {m : List DSetting × Int} (hm : mergeV (stAt l (commonN (parV l) a.toNat b.toNat)) (stAt l a.toNat) (stAt l b.toNat) = m) (h5 : m.2 = 0) : mvV l a b memo = addV l a memo m.1 := by
  subst hm
  unfold mvV
  rw [h, h2, h3, h4]
  simp only [Bool.and_self, Bool.not_true, Bool.false_eq_true, if_false]
  rw [if_neg (by rw [h5]; simp)]
theorem common_le {l : List DVersion} (h : OkHist l) {a b : Nat} (ha : 1 ≤ a) (ha2 : a ≤ l.length) : commonN (parV l) a b ≤ l.length := by
  unfold commonN
  refine firstIn_le fun p hp => ?_
  rcases List.mem_cons.1 hp with e | e
  · omega
  · have := above_mem h.par a ha (by rw [parV_len]; exact ha2) p e
    omega
theorem anc_get {l : List DVersion} {q : Nat} (h1 : 1 ≤ q) (h2 : q ≤ l.length) : ∃ x, l[q - 1]? = some x := ⟨_, List.getElem?_eq_getElem (by omega)⟩
theorem anc_end {l : List DVersion} {q : Nat} {x : DVersion} (h1 : 1 ≤ q) (hx : l[q - 1]? = some x) (h0 : x.fParent = 0) : aboveN (parV l) q = [] := above_end h1 (by rw [parV_get hx, h0]; rfl)
theorem anc_step {l : List DVersion} (h : OkHist l) {q : Nat} {x : DVersion} (h1 : 1 ≤ q) (hx : l[q - 1]? = some x) (h0 : x.fParent ≠ 0) : ∃ p : Nat, x.fParent = p ∧ 1 ≤ p ∧ p < q ∧ aboveN (parV l) q = p :: aboveN (parV l) p := by
  have hp := h.parent hx
  refine ⟨x.fParent.toNat, by omega, by omega, by omega, above_step h.par h1 (parV_get hx) (by omega)⟩
end Go.Proofs.Ytfabijhilfjkcaa
