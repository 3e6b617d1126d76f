/- Clearing and putting elements of several cells in a list of the call's own. Nothing here speaks of the program. Visits of one customer, what they come to. -/
import Derived.Test.YtbgmhlbcohdobaaGreatDoorRows
import Derived.Test.YtbgmhlbcohdobaaGreatDoorArr
import Derived.Test.YtbgmhlbcohdobaaGreatDoorTwo
import Derived.Test.YtbgmhlbcohdobaaGreatDoorRVisit
import Derived.Test.YtbgmhlbcohdobaaGreatDoorStableLaw
import Derived.Test.YtbgmhlbcohdobaaGreatDoorSlVisit
import Derived.Test.YtbgmhlbcohdobaaGreatDoorOrd
namespace Go.Proofs.YtbgmhlbcohdobaaGreatDoor
set_option linter.unusedVariables false
set_option linter.unusedSimpArgs false
set_option linter.unusedSectionVars false
open Go.RowKit

section
variable {P : Program} {w : World}
theorem run_clear_k {α : Type} (E : Enc α) (x : α) (t e ty : TypeId) (z : Value) (ht : P.underlying t = some (.slice e)) (hv : ∀ w, (zeroValue e).run P w = .ok z w) (hx : E.cells x = z.cells.toList) (b o n c : Nat) (hn : 0 < n)
    (hc : ∀ j, j < n * E.k → (w.cell? ⟨b, o + j, none⟩).isSome = true) (hf : ∀ j, j < n * E.k → w.frozen? ⟨b, o + j, none⟩ = false) :
    (Builtin.clear_ #[t] ty #[.slice (some ⟨b, o, none⟩) n c]).run P w = .ok (.tuple #[]) (w.setCells b o ((List.replicate n x).flatMap E.cells)) := by
  have hz : z.cells.size = E.k := by rw [← E.len x, hx]; simp
  have hzc : (Builtin.zeroCells z.cells n).toList = (List.replicate n x).flatMap E.cells := by
    have := toList_madeCells E (z := z.cells) hx n
    rw [← this, ← hz]
    rfl
  have hl : ((List.replicate n x).flatMap E.cells).length = n * E.k := by rw [flat_len, List.length_replicate]
  have hst := run_storeCells_cells (P := P) b o ((List.replicate n x).flatMap E.cells) 0 w (by rw [hl]; simpa using hc) (by rw [hl]; simpa using hf) (fun u hu => by
    obtain ⟨y, _, hy⟩ := List.mem_flatMap.1 hu
    exact E.one y u hy)
  simp only [Nat.add_zero] at hst
  obtain ⟨m, rfl⟩ : ∃ m, n = m + 1 := ⟨n - 1, by omega⟩
  simp [Builtin.clear_, run_underlying ht, hv, hzc, hst]
end
section
variable {α : Type} {E : Enc α} {et : TypeId} {base g n c : Nat} {w : World} {zs : List α}
theorem GL.putK (h : GL E et base w (.slice (some ⟨g, 0, none⟩) n c) zs) {i : Nat} (x : α) (hi : i < n) : GL E et base (w.setCells g (i * E.k) (E.cells x)) (.slice (some ⟨g, 0, none⟩) n c) (zs.set i x) := by
  have h1 := h.splice i [x] (by simp; omega)
  have hl := h.len
  have e1 : zs.take i ++ [x] ++ zs.drop (i + [x].length) = zs.set i x := by
    rw [List.set_eq_take_append_cons_drop, if_pos (by omega)]
    simp
  have e2 : [x].flatMap E.cells = E.cells x := by simp
  rw [e1, e2] at h1
  exact h1
end
/-- what a deleting scan has done: the first i are those kept of the first j, the rest is as it was -/
structure DelSt {α : Type} (p : α → Bool) (l : List α) (i j : Nat) (L : List α) : Prop where
  kept : L.take i = (l.take j).filter p
  rest : L.drop j = l.drop j
  len : L.length = l.length
  le : i ≤ j
section
variable {α : Type} {p : α → Bool} {l L : List α} {i j : Nat} {x : α}
theorem DelSt.get (h : DelSt p l i j L) (hx : l[j]? = some x) : L[j]? = some x := by
  have h1 : (L.drop j)[0]? = (l.drop j)[0]? := by rw [h.rest]
  rw [List.getElem?_drop, List.getElem?_drop, Nat.add_zero] at h1
  rw [h1, hx]
theorem DelSt.out (h : DelSt p l i j L) (hx : l[j]? = some x) (hp : p x = false) : DelSt p l i (j + 1) L := by
  refine ⟨?_, ?_, h.len, by have := h.le; omega⟩
  · rw [take_of_get hx, List.filter_append, h.kept]
    simp [hp]
  · have h1 := congrArg (List.drop 1) h.rest
    rwa [List.drop_drop, List.drop_drop] at h1
theorem DelSt.keep (h : DelSt p l i j L) (hx : l[j]? = some x) (hp : p x = true) : DelSt p l (i + 1) (j + 1) (L.set i x) := by
  have hj := (List.getElem?_eq_some_iff.1 hx).1
  have hle := h.le
  have hlen := h.len
  refine ⟨?_, ?_, by simpa using h.len, by omega⟩
  · rw [take_of_get hx, List.filter_append, List.set_eq_take_append_cons_drop, if_pos (by omega), List.take_append, List.length_take, Nat.min_eq_left (by omega), Nat.add_sub_cancel_left, List.take_of_length_le (by rw [List.length_take]; omega), ← h.kept]
    simp [hp]
  · have h1 := congrArg (List.drop 1) h.rest
    rw [List.drop_drop, List.drop_drop] at h1
    rw [List.drop_set_of_lt (by omega)]
    exact h1
theorem DelSt.start (hx : ∀ (k : Nat) y, k < j → l[k]? = some y → p y = true) (hp : ∀ y, l[j]? = some y → p y = false) (hj : j < l.length) : DelSt p l j (j + 1) l := by
  have e : (l.take j).filter p = l.take j := by
    rw [List.filter_eq_self]
    intro y hy
    obtain ⟨k, hk⟩ := List.mem_iff_getElem?.1 hy
    have hkl := (List.getElem?_eq_some_iff.1 hk).1
    rw [List.length_take] at hkl
    rw [List.getElem?_take, if_pos (by omega)] at hk
    exact hx k y (by omega) hk
  obtain ⟨y, hy⟩ : ∃ y, l[j]? = some y := ⟨_, List.getElem?_eq_getElem hj⟩
  refine ⟨?_, rfl, rfl, by omega⟩
  rw [take_of_get hy, List.filter_append, e]
  simp [hp y hy]
theorem DelSt.done (h : DelSt p l i j L) (hj : l.length ≤ j) : L.take i = l.filter p := by rw [h.kept, List.take_of_length_le hj]
theorem keep_all (h : ∀ y ∈ l, p y = true) : l.filter p = l := List.filter_eq_self.2 h
end
theorem GL.swapS2 {et : TypeId} {base g n c k : Nat} {w : World} {P S : List ByteArray} {x y : ByteArray} (h : GL strE et base w (.slice (some ⟨g, 0, none⟩) n c) (P ++ x :: y :: S)) (hk : P.length = k) :
    GL strE et base ((w.setCell ⟨g, k + 1, none⟩ (.string x)).setCell ⟨g, k, none⟩ (.string y)) (.slice (some ⟨g, 0, none⟩) n c) (P ++ y :: x :: S) := by
  subst hk
  have hl := h.len
  simp at hl
  have h1 := h.splice (P.length + 1) [x] (by simp; omega)
  have h2 := h1.splice P.length [y] (by simp; omega)
  have e : ((P ++ x :: y :: S).take (P.length + 1) ++ [x] ++ (P ++ x :: y :: S).drop (P.length + 1 + [x].length)).take P.length ++ [y] ++ ((P ++ x :: y :: S).take (P.length + 1) ++ [x] ++ (P ++ x :: y :: S).drop (P.length + 1 + [x].length)).drop (P.length + [y].length) = P ++ y :: x :: S := by
    have e1 : (P ++ x :: y :: S).take (P.length + 1) = P ++ [x] := by
      rw [show P ++ x :: y :: S = (P ++ [x]) ++ y :: S by simp, show P.length + 1 = (P ++ [x]).length by simp, List.take_left']
      rfl
    have e2 : (P ++ x :: y :: S).drop (P.length + 1 + [x].length) = S := by
      rw [show P ++ x :: y :: S = (P ++ [x, y]) ++ S by simp, show P.length + 1 + [x].length = (P ++ [x, y]).length by simp, List.drop_left']
      rfl
    rw [e1, e2]
    have e3 : (P ++ [x] ++ [x] ++ S).take P.length = P := by
      rw [show P ++ [x] ++ [x] ++ S = P ++ ([x] ++ [x] ++ S) by simp, List.take_left']
      rfl
    have e4 : (P ++ [x] ++ [x] ++ S).drop (P.length + [y].length) = x :: S := by
      rw [show P ++ [x] ++ [x] ++ S = (P ++ [x]) ++ (x :: S) by simp, show P.length + [y].length = (P ++ [x]).length by simp, List.drop_left']
      rfl
    rw [e3, e4]
    simp
  rw [e] at h2
  have e5 : ∀ (W : World) (i : Nat) (z : ByteArray), W.setCells g (i * strE.k) ([z].flatMap strE.cells) = W.setCell ⟨g, i, none⟩ (.string z) := fun W i z => by
    show W.setCells g (i * 1) [.string z] = _
    rw [Nat.mul_one]
    rfl
  rw [e5, e5] at h2
  exact h2
theorem GL.cellsTwo {et : TypeId} {base g n c k : Nat} {w : World} {P S : List ByteArray} {x y : ByteArray} (h : GL strE et base w (.slice (some ⟨g, 0, none⟩) n c) (P ++ x :: y :: S)) (hk : P.length = k) :
    w.cell? ⟨g, k, none⟩ = some (.string x) ∧ w.cell? ⟨g, k + 1, none⟩ = some (.string y) := by
  subst hk
  have h1 := h.range P.length
  rw [show (P ++ x :: y :: S).drop P.length = x :: y :: S from List.drop_left' rfl] at h1
  have a := h1 0 (.string x) rfl
  have b := h1 1 (.string y) rfl
  rw [show P.length * strE.k = P.length from Nat.mul_one _] at a b
  exact ⟨a, b⟩
/-- valid visits, few and small -/
structure OkVs (l : List DVisit) : Prop where
  ok : ∀ x ∈ l, OkV x
  asc : ∀ (j : Nat) (p x : DVisit), l[j]? = some p → l[j + 1]? = some x → p.fDay ≤ x.fDay
  few : l.length ≤ 9
  amt : ∀ x ∈ l, 0 ≤ x.fAmount ∧ x.fAmount ≤ 5900
def isWho (s : ByteArray) (x : DVisit) : Bool := x.fWho.toList == s.toList
def spB (l : List DVisit) (s : ByteArray) : Int := spentOf (fun x : DVisit => x.fWho) (fun x => x.fAmount) l s
theorem isWho_iff {s : ByteArray} {x : DVisit} : isWho s x = true ↔ x.fWho = s := by
  unfold isWho
  rw [ByteArray.toList_eq, ByteArray.toList_eq, beq_iff_eq]
  exact ⟨fun h => ba_ext h, fun h => by rw [h]⟩
theorem sp_filter (s : ByteArray) : ∀ l : List DVisit, sumBy (fun x : DVisit => x.fAmount) (l.filter (isWho s)) = spB l s
  | [] => rfl
  | x :: r => by
    have ih := sp_filter s r
    show _ = (if x.fWho = s then x.fAmount else 0) + spB r s
    rcases h : isWho s x with _ | _
    · rw [List.filter_cons_of_neg (by rw [h]; simp), ih, if_neg (fun e => by rw [isWho_iff.2 e] at h; cases h), Int.zero_add]
    · rw [List.filter_cons_of_pos h, if_pos (isWho_iff.1 h), sumBy, ih]
theorem OkVs.sp {l : List DVisit} (h : OkVs l) (s : ByteArray) : 0 ≤ spB l s ∧ spB l s ≤ 53100 := by
  have h1 := spent_range (f := fun x : DVisit => x.fWho) (g := fun x : DVisit => x.fAmount) (M := 5900) (l := l) h.amt s
  have h2 := h.few
  unfold spB
  omega
theorem sum_range {l : List DVisit} (h : ∀ x ∈ l, 0 ≤ x.fAmount ∧ x.fAmount ≤ 5900) (h9 : l.length ≤ 9) : 0 ≤ sumBy (fun x : DVisit => x.fAmount) l ∧ sumBy (fun x : DVisit => x.fAmount) l ≤ 53100 := by
  have h1 := sumBy_range (f := fun x : DVisit => x.fAmount) (M := 5900) h
  omega

theorem i_visitsOf1 (x : DVisit) (q : Nat) (s : ByteArray) (w : World) (hq : w.cell? ⟨q, 0, none⟩ = some (.string s)) :
    Calls Tryz.prog 55 #[.agg #[.int .i64 x.fDay, .string x.fWho, .int .i64 x.fKind, .int .i64 x.fAmount], .pointer (some ⟨q, 0, none⟩)] w fun e w' => e = .returned (.bool (!(isWho s x))) ∧ Below w.heap.size w w' := by
  have hlt := World.block_lt_of_cell? w _ hq
  have hq1 := fun o => (World.cell?_alloc_lt w o _ hlt).trans hq
  have E : Hid (isWho s x = (x.fWho.toList == s.toList)) := Lib.hid rfl
  go_enter Tryz.func55, Tryz.ntmps55
  go_wp2
  go_ret
  exact ⟨by rw [E.out]; rfl, by (repeat (first | exact Below.refl _ _ | assumption | refine Below.drew ?_ | refine Below.alloc ?_ (by first | omega | (simp; done) | (simp; omega) | exact Below.size (by assumption)) _ | refine Below.setCell ?_ (by first | omega | (simp; done) | (simp; omega)) _))⟩
set_option maxRecDepth 100000 in
set_option maxHeartbeats 2000000 in
theorem i_IndexVisit (A : Option Addr) (n c q : Nat) (s : ByteArray) (l : List DVisit) (w : World) (hr : Rd visitE w A n l) (hn : n ≤ 1048576) (hq : w.cell? ⟨q, 0, none⟩ = some (.string s)) :
    Calls Tryz.prog 69 #[.slice A n c, .func (.func 55) #[] #[.pointer (some ⟨q, 0, none⟩)]] w fun e w' => ∃ v : Int, Hid ((v = -1 ∧ ∀ x ∈ l, isWho s x = true) ∨ (∃ i : Nat, v = i ∧ i < n ∧ (∀ (k : Nat) y, k < i → l[k]? = some y → isWho s y = true) ∧ ∀ y, l[i]? = some y → isWho s y = false)) ∧ e = .returned (.int .i64 v) ∧ Below w.heap.size w w' := by
  have Hl := Lib.hid hr.1
  go_enter Tryz.func69, Tryz.ntmps69
  go_wp2_with fail
  go_loopw [8] (fun i wr => ∃ k : Nat, k ≤ n ∧ i = .int .i64 k ∧ Below w.heap.size w wr ∧ Hid (∀ (j : Nat) y, j < k → l[j]? = some y → isWho s y = true)) (fun i _ => n - (intOf i).toNat)
  case atStart => exact ⟨0, Nat.zero_le _, rfl, Below.refl _ _, Lib.hid (fun j x h => absurd h (Nat.not_lt_zero _))⟩
  case round =>
    obtain ⟨k, hk, rfl, hb, HH⟩ := hrel
    by_cases hlt : k < n
    · obtain ⟨b0, off, x, rfl, hx, hc⟩ := hr.get hlt
      have hcr := range_below (B := 0) hc hb
      have hc0 := hcr 0 _ rfl
      have hc1 := hcr 1 _ rfl
      have hc2 := hcr 2 _ rfl
      have hc3 := hcr 3 _ rfl
      simp only [visitE, Nat.add_zero] at hc0 hc1 hc2 hc3
      have HX := Lib.hid hx
      clear hc hcr hx
      have hcall := i_visitsOf1 x q s wr (cell_later hb hq)
      go_wp2_with fail
      refine hcall.mono ?_
      rintro e w1 ⟨rfl, hb1⟩
      have hb2 := hb.trans (hb1.mono hb.size)
      clear hcall hc0 hc1 hc2 hc3
      rcases hw : isWho s x with _ | _
      · have HF : Hid ((∀ (k' : Nat) y, k' < k → l[k']? = some y → isWho s y = true) ∧ ∀ y, l[k]? = some y → isWho s y = false) := Lib.hid ⟨HH.out, fun y hy => by rw [HX.out] at hy; cases hy; exact hw⟩
        clear hw
        go_wp2
        go_ret
        exact ⟨k, Lib.hid (.inr ⟨k, rfl, hlt, HF.out⟩), rfl, hb2⟩
      · have HN : Hid (∀ (j : Nat) y, j < k + 1 → l[j]? = some y → isWho s y = true) := Lib.hid (fun j y hj hy => by
          rcases Nat.lt_or_ge j k with h | h
          · exact HH.out j y h hy
          · obtain rfl : j = k := by omega
            rw [HX.out] at hy; cases hy
            exact hw)
        clear hw
        go_wp2
        first | (refine ⟨⟨k + 1, by omega, by go_num, hb2, HN⟩, ?_⟩; (simp [intOf]; omega)) | (go_roundw; (case rel => first | exact ⟨k + 1, by omega, by go_num, hb2, HN⟩ | ((try refine ⟨trivial, ?_⟩); (repeat apply Exists.intro); exact ⟨⟨k + 1, by omega, by go_num, hb2, HN⟩, rfl⟩)); (case measure => (simp [intOf]; omega)))
    · have HF : Hid (∀ x ∈ l, isWho s x = true) := Lib.hid (fun p hp => by
        obtain ⟨j, hj⟩ := List.mem_iff_getElem?.1 hp
        exact HH.out j p (by have := (List.getElem?_eq_some_iff.1 hj).1; have := Hl.out; omega) hj)
      go_wp2
      go_ret
      exact ⟨-1, Lib.hid (.inl ⟨rfl, HF.out⟩), rfl, hb⟩
set_option maxRecDepth 100000 in
set_option maxHeartbeats 4000000 in
theorem i_DeleteVisits (g n c q base : Nat) (s : ByteArray) (l : List DVisit) (w w0 : World) (hgl : GL visitE 35 base w (.slice (some ⟨g, 0, none⟩) n c) l) (hn : n ≤ 1048576) (hq : w.cell? ⟨q, 0, none⟩ = some (.string s)) (hqb : q < base) (hb0 : Below base w0 w) (hbs : base ≤ w.heap.size) :
    Calls Tryz.prog 53 #[.slice (some ⟨g, 0, none⟩) n c, .func (.func 55) #[] #[.pointer (some ⟨q, 0, none⟩)]] w fun e w' => ∃ m : Nat, m ≤ n ∧ e = .returned (.slice (some ⟨g, 0, none⟩) m c) ∧ GL visitE 35 base w' (.slice (some ⟨g, 0, none⟩) m c) (l.filter (isWho s)) ∧ Below base w0 w' := by
  obtain ⟨i0, hi, hz0, hz1, hz2⟩ := info_parts Tryz.inf_Visit
  have HZV : Hid (∀ w, (zeroValue 35).run Tryz.prog w = .ok (.agg #[.int .i64 0, .string ⟨#[]⟩, .int .i64 0, .int .i64 0]) w) := Lib.hid (fun w => by simp [zeroValue, typeInfo, hi, hz0])
  clear hi hz0 hz1 hz2
  have Hl := Lib.hid hgl.len
  have hcap := hgl.cap
  have hc1 := hcap.1
  have hc2 := hcap.2
  unfold maxLen at hc2
  clear hcap
  have hgb := hgl.baseLe
  go_enter Tryz.func53, Tryz.ntmps53
  go_wp2_with fail
  refine (i_IndexVisit _ n c q s l w hgl.rd hn hq).mono ?_
  rintro e w1 ⟨v, hv, rfl, hb1⟩
  have hgl1 := hgl.below hb1
  have hq1 := cell_later hb1 hq
  have hbB := hb0.trans (hb1.mono hbs)
  have hbs1 : base ≤ w1.heap.size := Nat.le_trans hbs hb1.size
  clear hgl hq hb0 hb1 hbs
  obtain hv | ⟨i, rfl, hin, hlo, hhi⟩ := hv.out
  · obtain ⟨rfl, hall⟩ := hv
    have E : Hid (l.filter (isWho s) = l) := Lib.hid (keep_all hall)
    clear hall
    go_wp2
    go_ret
    exact ⟨n, Nat.le_refl _, rfl, by rw [E.out]; exact hgl1, hbB⟩
  · have HD0 := Lib.hid (DelSt.start hlo hhi (by rw [Hl.out]; exact hin))
    have hne : ((i : Int) == -1) = false := by rw [beq_eq_false_iff_ne]; omega
    have HG1 := Lib.hid hgl1
    have HQ1 := Lib.hid hq1
    clear hlo hhi hv hgl1 hq1
    go_wp2_with fail
    go_loopw [5, 6] (fun iv jv wr => ∃ (i' j : Nat) (L : List DVisit), i' < j ∧ j ≤ n ∧ iv = .int .i64 i' ∧ jv = .int .i64 j ∧ Hid (DelSt (isWho s) l i' j L) ∧ GL visitE 35 base wr (.slice (some ⟨g, 0, none⟩) n c) L ∧ wr.cell? ⟨q, 0, none⟩ = some (.string s) ∧ Below base w0 wr ∧ base ≤ wr.heap.size) (fun _ j _ => n - (intOf j).toNat)
    case atStart => exact ⟨i, i + 1, l, by omega, by omega, rfl, by go_num, HD0, HG1.out, HQ1.out, hbB, hbs1⟩
    case round =>
      obtain ⟨i', j, L, hij, hjn, rfl, rfl, HD, hgl, hq, hbr, hsr⟩ := hrel
      clear hne HD0 HG1 HQ1 hbB hbs1
      by_cases hlt : j < n
      · obtain ⟨x, hx⟩ : ∃ x, l[j]? = some x := ⟨_, List.getElem?_eq_getElem (by have := Hl.out; omega)⟩
        have hLx := HD.out.get hx
        obtain ⟨b', off', x', hA', hx', hcs⟩ := hgl.rd.get hlt
        cases hA'
        rw [hLx] at hx'
        cases hx'
        have hc0 := hcs 0 _ rfl
        have hc1' := hcs 1 _ rfl
        have hc2' := hcs 2 _ rfl
        have hc3 := hcs 3 _ rfl
        simp only [visitE, Nat.add_zero, Nat.zero_add] at hc0 hc1' hc2' hc3
        have HX := Lib.hid hx
        clear hcs hx hLx
        have hXR := range_new wr #[.int .i64 x.fDay, .string x.fWho, .int .i64 x.fKind, .int .i64 x.fAmount] 35
        have hba : Below wr.heap.size wr (wr.alloc (.cells #[.int .i64 x.fDay, .string x.fWho, .int .i64 x.fKind, .int .i64 x.fAmount] 35)) := (Below.refl _ _).alloc (Nat.le_refl _) _
        obtain ⟨W1, hW1⟩ : ∃ W1, wr.alloc (.cells #[.int .i64 x.fDay, .string x.fWho, .int .i64 x.fKind, .int .i64 x.fAmount] 35) = W1 := ⟨_, rfl⟩
        rw [hW1] at hXR hba
        have hx0 := hXR 0 _ rfl
        have hx1 := hXR 1 _ rfl
        have hx2 := hXR 2 _ rfl
        have hx3 := hXR 3 _ rfl
        simp only [Nat.zero_add] at hx0 hx1 hx2 hx3
        clear hXR
        go_wp2_with fail
        try rw [hW1]
        clear hW1 hc0 hc1' hc2' hc3
        have hgl2 := hgl.below hba
        have hq2 := cell_later hba hq
        have hbr2 := hbr.trans (hba.mono hsr)
        have hsr2 : base ≤ W1.heap.size := Nat.le_trans hsr hba.size
        clear hgl hq hbr hsr hba
        refine (i_visitsOf1 x q s W1 hq2).mono ?_
        rintro e w5 ⟨rfl, hb5⟩
        replace hx0 := cell_later hb5 hx0
        replace hx1 := cell_later hb5 hx1
        replace hx2 := cell_later hb5 hx2
        replace hx3 := cell_later hb5 hx3
        have hgl5 := hgl2.below hb5
        have hq5 := cell_later hb5 hq2
        have hbr5 := hbr2.trans (hb5.mono hsr2)
        have hsr5 : base ≤ w5.heap.size := Nat.le_trans hsr2 hb5.size
        clear hgl2 hq2 hbr2 hsr2 hb5
        rcases hw : isWho s x with _ | _
        · have HN := Lib.hid (HD.out.out HX.out hw)
          clear hw
          go_wp2
          first | (refine ⟨⟨i', j + 1, L, by omega, by omega, rfl, by go_num, HN, hgl5, hq5, hbr5, hsr5⟩, ?_⟩; (simp [intOf]; omega)) | (go_roundw; (case rel => first | exact ⟨i', j + 1, L, by omega, by omega, rfl, by go_num, HN, hgl5, hq5, hbr5, hsr5⟩ | ((try refine ⟨trivial, ?_⟩); (repeat apply Exists.intro); exact ⟨⟨i', j + 1, L, by omega, by omega, rfl, by go_num, HN, hgl5, hq5, hbr5, hsr5⟩, rfl⟩)); (case measure => (simp [intOf]; omega)))
        · have HN := Lib.hid (HD.out.keep HX.out hw)
          clear hw
          have hcell := fun (o : Nat) (ho : o < 4) => hgl5.cell (j := i' * 4 + o) (by show _ < _ * 4; omega)
          have hfree := fun (o : Nat) => hgl5.free (i' * 4 + o)
          obtain ⟨u0, hu0⟩ := Option.isSome_iff_exists.1 (hcell 0 (by omega))
          obtain ⟨u1, hu1⟩ := Option.isSome_iff_exists.1 (hcell 1 (by omega))
          obtain ⟨u2, hu2⟩ := Option.isSome_iff_exists.1 (hcell 2 (by omega))
          obtain ⟨u3, hu3⟩ := Option.isSome_iff_exists.1 (hcell 3 (by omega))
          have f0 := hfree 0
          have f1 := hfree 1
          have f2 := hfree 2
          have f3 := hfree 3
          rw [Nat.add_zero] at hu0 f0
          have hglN := hgl5.putK (i := i') x (by omega)
          have hqN : (w5.setCells g (i' * 4) [.int .i64 x.fDay, .string x.fWho, .int .i64 x.fKind, .int .i64 x.fAmount]).cell? ⟨q, 0, none⟩ = some (.string s) := touch_cell (Touch.setCells (F := fun k => k = g) rfl _ _) (by simp; omega) hq5
          have hbN := below_setCells hgb [.int .i64 x.fDay, .string x.fWho, .int .i64 x.fKind, .int .i64 x.fAmount] (i' * 4) hbr5
          have hsN : base ≤ (w5.setCells g (i' * 4) [.int .i64 x.fDay, .string x.fWho, .int .i64 x.fKind, .int .i64 x.fAmount]).heap.size := Nat.le_trans hsr5 (Touch.setCells (F := fun k => k = g) rfl _ _).size
          have HGN : Hid (GL visitE 35 base (w5.setCells g (i' * 4) [.int .i64 x.fDay, .string x.fWho, .int .i64 x.fKind, .int .i64 x.fAmount]) (.slice (some ⟨g, 0, none⟩) n c) (L.set i' x)) := Lib.hid hglN
          clear hcell hfree hgl5 hglN hq5 hbr5 hsr5
          go_wp2
          first | (refine ⟨⟨i' + 1, j + 1, L.set i' x, by omega, by omega, by go_num, by go_num, HN, HGN.out, hqN, hbN, hsN⟩, ?_⟩; (simp [intOf]; omega)) | (go_roundw; (case rel => first | exact ⟨i' + 1, j + 1, L.set i' x, by omega, by omega, by go_num, by go_num, HN, HGN.out, hqN, hbN, hsN⟩ | ((try refine ⟨trivial, ?_⟩); (repeat apply Exists.intro); exact ⟨⟨i' + 1, j + 1, L.set i' x, by omega, by omega, by go_num, by go_num, HN, HGN.out, hqN, hbN, hsN⟩, rfl⟩)); (case measure => (simp [intOf]; omega)))
      · have hjn2 : n ≤ j := by omega
        have HE := Lib.hid (HD.out.done (by rw [Hl.out]; exact hjn2))
        have hin' : i' < n := by omega
        have hcl : ∀ ty, (Builtin.clear_ #[24] ty #[.slice (some ⟨g, i' * 4, none⟩) (n - i') (c - i')]).run Tryz.prog wr = .ok (.tuple #[]) (wr.setCells g (i' * 4) ((List.replicate (n - i') (⟨0, ⟨#[]⟩, 0, 0⟩ : DVisit)).flatMap visitE.cells)) := fun ty =>
          run_clear_k visitE (⟨0, ⟨#[]⟩, 0, 0⟩ : DVisit) _ _ ty _ Tryz.underlying24 HZV.out rfl g (i' * 4) (n - i') (c - i') (by omega)
            (fun k hk => hgl.cell (by show _ < _ * 4; have : (n - i') * 4 = n * 4 - i' * 4 := Nat.sub_mul _ _ _; have hk' : k < (n - i') * 4 := hk; omega)) (fun k hk => hgl.free _)
        have hgl2 := hgl.splice i' (List.replicate (n - i') (⟨0, ⟨#[]⟩, 0, 0⟩ : DVisit)) (by rw [List.length_replicate]; omega)
        have hgl3 := hgl2.cut i' (by omega)
        have HGF : Hid (GL visitE 35 base (wr.setCells g (i' * 4) ((List.replicate (n - i') (⟨0, ⟨#[]⟩, 0, 0⟩ : DVisit)).flatMap visitE.cells)) (.slice (some ⟨g, 0, none⟩) i' c) (l.filter (isWho s))) := Lib.hid (by
          have hLl := hgl.len
          have e : (L.take i' ++ List.replicate (n - i') (⟨0, ⟨#[]⟩, 0, 0⟩ : DVisit) ++ L.drop (i' + (List.replicate (n - i') (⟨0, ⟨#[]⟩, 0, 0⟩ : DVisit)).length)).take i' = l.filter (isWho s) := by
            rw [List.append_assoc, List.take_append_of_le_length (by rw [List.length_take]; omega), List.take_take, Nat.min_self, HE.out]
          rw [e] at hgl3
          exact hgl3)
        have hbF := below_setCells hgb ((List.replicate (n - i') (⟨0, ⟨#[]⟩, 0, 0⟩ : DVisit)).flatMap visitE.cells) (i' * 4) hbr
        obtain ⟨Wf, hWf⟩ : ∃ W, wr.setCells g (i' * 4) ((List.replicate (n - i') (⟨0, ⟨#[]⟩, 0, 0⟩ : DVisit)).flatMap visitE.cells) = W := ⟨_, rfl⟩
        rw [hWf] at hcl HGF hbF
        have hic : (i' : Int) ≤ (c : Int) := by omega
        have hcne : ¬ c = i' := by omega
        clear hWf hgl hgl2 hgl3 hq hbr hsr
        go_wp2
        go_ret
        exact ⟨i', by omega, rfl, HGF.out, hbF⟩
end Go.Proofs.YtbgmhlbcohdobaaGreatDoor
