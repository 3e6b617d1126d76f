/- Lines in order: the reference's insertion, the library's sort. -/
import Derived.Test.YtbblkmnafdmcdaaRows
import Derived.Test.YtbblkmnafdmcdaaShelf
import Derived.Test.YtbblkmnafdmcdaaRep
import Derived.Test.YtbblkmnafdmcdaaArr
import Derived.Test.YtbblkmnafdmcdaaGrow
import Derived.Test.YtbblkmnafdmcdaaSortLaw
import Derived.Test.YtbblkmnafdmcdaaOrd
import Derived.Lib.OwnBridge
namespace Go.Proofs.Ytbblkmnafdmcdaa
set_option linter.unusedVariables false
set_option linter.unusedSimpArgs false
set_option linter.unusedSectionVars false
open Go.RowKit

theorem rep_le {ss : List ByteArray} (h : repB ss = true) : ss.length ≤ 200 := by
  unfold repB at h
  rw [Bool.and_eq_true] at h
  have := of_decide_eq_true h.2
  omega
theorem str_flat (l : List ByteArray) : l.flatMap strE.cells = l.map Value.string := by
  induction l with
  | nil => rfl
  | cons x r ih => rw [List.map_cons, List.flatMap_cons, ih]; rfl
theorem enc_flat (l : List ByteArray) : (l.map fun s => s.data.toList).map encStr = l.flatMap strE.cells := by rw [str_flat]; exact Lib.map_encStr l

set_option maxHeartbeats 1000000 in
theorem i_cloneS (A : Option Addr) (n c : Nat) (l : List ByteArray) (w : World) (hr : Rd strE w A n l) (hn : n ≤ 4194304) :
    Calls Try.prog 37 #[.slice A n c] w (RetClone strE 9 l n w) := by
  obtain ⟨i0, hi, hz0, hz1, hz2⟩ := info_parts Try.info_str
  have Hl := Lib.hid hr.1
  obtain ⟨w1, hmk, ho1, hg1⟩ := run_make_own (P := Try.prog) w w.heap.size 22 9 i0 _ 1 Try.underlying22 hi hz0 hz1 .i64 .i64 n (by rw [hz2]; omega) (by unfold maxLen; omega) (Nat.le_refl _)
  have hb1 : Below w.heap.size w w1 := (Below.refl _ _).grown hg1 (Nat.le_refl _) (fun k hk => by cases hk)
  have hgl0 : GL strE 9 w.heap.size w1 (.slice (some ⟨w.heap.size, 0, none⟩) 0 n) [] := ho1
  have hr1 := hr.below hb1
  have HZ := Lib.hid hz1
  clear ho1 hg1 hz1
  go_enter Try.func37, Try.ntmps37
  go_wp2_with (at_builtin; refine wpList_fitL strE rfl _ _ 22 rfl w.heap.size 9 i0 Try.underlying22 hi HZ.out w.heap.size 0 n [] l rfl hgl0 A n c rfl Hl.out (Rd.noneLen hr) (Rd.src hr1) (by omega) w hb1 hb1.size ?_; intro w2 hgl hb2 hs2)
  go_ret
  exact ⟨w.heap.size, by simp, by simpa using hgl, hb2⟩

theorem GL.swapS {et : TypeId} {base g n c k : Nat} {w : World} {P S : List ByteArray} {x y : ByteArray} (h : GL strE et base w (.slice (some ⟨g, 0, none⟩) n c) (P ++ x :: y :: S)) (hk : P.length = k) :
    GL strE et base ((w.setCell ⟨g, k + 1, none⟩ (.string x)).setCell ⟨g, k, none⟩ (.string y)) (.slice (some ⟨g, 0, none⟩) n c) (P ++ y :: x :: S) := by
  subst hk
  have hl := h.len
  simp at hl
  have h1 := h.splice (P.length + 1) [x] (by simp; omega)
  have h2 := h1.splice P.length [y] (by simp; omega)
  have e : ((P ++ x :: y :: S).take (P.length + 1) ++ [x] ++ (P ++ x :: y :: S).drop (P.length + 1 + [x].length)).take P.length ++ [y] ++ ((P ++ x :: y :: S).take (P.length + 1) ++ [x] ++ (P ++ x :: y :: S).drop (P.length + 1 + [x].length)).drop (P.length + [y].length) = P ++ y :: x :: S := by
    have e1 : (P ++ x :: y :: S).take (P.length + 1) = P ++ [x] := by
      rw [show P ++ x :: y :: S = (P ++ [x]) ++ y :: S by simp, show P.length + 1 = (P ++ [x]).length by simp, List.take_left']
      rfl
    have e2 : (P ++ x :: y :: S).drop (P.length + 1 + [x].length) = S := by
      rw [show P ++ x :: y :: S = (P ++ [x, y]) ++ S by simp, show P.length + 1 + [x].length = (P ++ [x, y]).length by simp, List.drop_left']
      rfl
    rw [e1, e2]
    have e3 : (P ++ [x] ++ [x] ++ S).take P.length = P := by
      rw [show P ++ [x] ++ [x] ++ S = P ++ ([x] ++ [x] ++ S) by simp, List.take_left']
      rfl
    have e4 : (P ++ [x] ++ [x] ++ S).drop (P.length + [y].length) = x :: S := by
      rw [show P ++ [x] ++ [x] ++ S = (P ++ [x]) ++ (x :: S) by simp, show P.length + [y].length = (P ++ [x]).length by simp, List.drop_left']
      rfl
    rw [e3, e4]
    simp
  rw [e] at h2
  have e5 : ∀ (W : World) (i : Nat) (z : ByteArray), W.setCells g (i * strE.k) ([z].flatMap strE.cells) = W.setCell ⟨g, i, none⟩ (.string z) := fun W i z => by
    show W.setCells g (i * 1) [.string z] = _
    rw [Nat.mul_one]
    rfl
  rw [e5, e5] at h2
  exact h2
theorem GL.cells2 {et : TypeId} {base g n c k : Nat} {w : World} {P S : List ByteArray} {x y : ByteArray} (h : GL strE et base w (.slice (some ⟨g, 0, none⟩) n c) (P ++ x :: y :: S)) (hk : P.length = k) :
    w.cell? ⟨g, k, none⟩ = some (.string x) ∧ w.cell? ⟨g, k + 1, none⟩ = some (.string y) := by
  subst hk
  have h1 := h.range P.length
  rw [show (P ++ x :: y :: S).drop P.length = x :: y :: S from List.drop_left' rfl] at h1
  have a := h1 0 (.string x) rfl
  have b := h1 1 (.string y) rfl
  rw [show P.length * strE.k = P.length from Nat.mul_one _] at a b
  exact ⟨a, b⟩

set_option maxHeartbeats 4000000 in
theorem s_l30Sorted (A : Option Addr) (n c : Nat) (l : List ByteArray) (w : World) (hr : Rd strE w A n l) (hn : n ≤ 200) :
    Calls Try.prog 36 #[.slice A n c] w (RetL strE 9 (sortB l) w) := by
  obtain ⟨i0, hi, hz0, hz1, hz2⟩ := info_parts Try.info_str
  have Hl := Lib.hid hr.1
  have HZ := Lib.hid hz1
  have hb0 : Below w.heap.size w (w.alloc (.cells #[] 9)) := by (repeat (first | exact Below.refl _ _ | assumption | refine Below.drew ?_ | refine Below.alloc ?_ (by first | omega | (simp; done) | (simp; omega) | exact Below.size (by assumption)) _ | refine Below.setCell ?_ (by first | omega | (simp; done) | (simp; omega)) _))
  have hr0 := hr.below hb0
  have hgl0 : GL strE 9 w.heap.size (w.alloc (.cells #[] 9)) (.slice (some ⟨w.heap.size, 0, none⟩) 0 0) [] := GL.mk0 (Nat.le_refl _)
  have hbs : w.heap.size ≤ (w.alloc (.cells #[] 9)).heap.size := by simp
  clear hz1
  go_enter Try.func36, Try.ntmps36
  go_wp2_with (at_builtin; refine wpList_pushL strE rfl (.tmp 7) (.tmp 8) 22 rfl w.heap.size 9 i0 _ 16 Try.underlying22 hi hz0 HZ.out hz2 rfl (.slice (some ⟨w.heap.size, 0, none⟩) 0 0) [] l rfl hgl0 A n c rfl Hl.out (Rd.noneLen hr) (Rd.src hr0) n (by simp) l (by simp) (by omega) (by decide) w hb0 hbs ?_; intro A1 c1 w1 hgl1 hcap1 hb1 hs1)
  go_loopw [4] (fun i wr => ∃ (k : Nat) (L : List ByteArray), 1 ≤ k ∧ (k ≤ n ∨ k = 1) ∧ i = .int .i64 k ∧ GL strE 9 w.heap.size wr (.slice A1 n c1) L ∧ Below w.heap.size w wr ∧ Hid (L.Perm l ∧ (L.take k).Pairwise leS)) (fun i _ => n - (intOf i).toNat)
  case atStart => exact ⟨1, l, Nat.le_refl _, .inr rfl, rfl, hgl1, hb1, Lib.hid ⟨List.Perm.refl _, by cases l with | nil => simp | cons a r => simp⟩⟩
  case round =>
    obtain ⟨k, L, hk1, hk, rfl, hgl, hb, HP⟩ := hrel
    obtain ⟨wo, rfl⟩ : ∃ wo : World, wo = wr := ⟨_, rfl⟩
    by_cases hlt : k < n
    · obtain ⟨g, rfl⟩ : ∃ g, A1 = some ⟨g, 0, none⟩ := by
        rcases hgl.own.2.2 with ⟨e, h0⟩ | ⟨g, cap, cur, e, _⟩
        · cases e; omega
        · cases e; exact ⟨_, rfl⟩
      obtain ⟨y, hy⟩ : ∃ y, L[k]? = some y := ⟨_, List.getElem?_eq_getElem (by have := hgl.len; omega)⟩
      have HI := Lib.hid (Insd.start HP.out.1 HP.out.2 hy)
      go_wp2_with fail
      go_loopw [5] (fun j wr => ∃ (q : Nat) (L' P M : List ByteArray), q ≤ k ∧ j = .int .i64 q ∧ GL strE 9 w.heap.size wr (.slice (some ⟨g, 0, none⟩) n c1) L' ∧ Below w.heap.size w wr ∧ Hid (Insd l k q L' P y M (L.drop (k + 1)))) (fun j _ => (intOf j).toNat)
      case atStart => exact ⟨k, L, L.take k, [], Nat.le_refl _, rfl, hgl, hb, HI⟩
      case round =>
        obtain ⟨q, L', P, M, hq, rfl, hgl', hb', HI'⟩ := hrel
        rcases q with _ | q
        · have HS := Lib.hid (by
            have hP : P = [] := List.eq_nil_of_length_eq_zero HI'.out.k
            have h := HI'.out
            rw [hP] at h
            exact And.intro h.perm h.first)
          have hgd : ∀ m, GL strE 9 w.heap.size (wr.drewN m) (.slice (some ⟨g, 0, none⟩) n c1) L' := fun m => hgl'
          have hbd : ∀ m, Below w.heap.size w (wr.drewN m) := fun m => below_drewN hb' m
          go_wp2_with fail
          go_quiet (fail)
          go_wp2
          first | (refine ⟨⟨k + 1, L', by omega, .inl (by omega), by simp, hgd _, hbd _, HS⟩, ?_⟩; (simp [intOf]; omega)) | (go_roundw; (case rel => first | exact ⟨k + 1, L', by omega, .inl (by omega), by simp, hgd _, hbd _, HS⟩ | ((try refine ⟨trivial, ?_⟩); (repeat apply Exists.intro); exact ⟨⟨k + 1, L', by omega, .inl (by omega), by simp, hgd _, hbd _, HS⟩, rfl⟩)); (case measure => (simp [intOf]; omega)))
        · obtain ⟨P', x, hP, hP'⟩ := snoc_of HI'.out.k
          have HE : L' = P' ++ x :: y :: (M ++ L.drop (k + 1)) := by rw [HI'.out.eq, hP]; simp
          have HI2 : Hid (Insd l k (q + 1) L' (P' ++ [x]) y M (L.drop (k + 1))) := Lib.hid (hP ▸ HI'.out)
          rw [HE] at hgl'
          obtain ⟨hc0, hc1⟩ := hgl'.cells2 hP'
          have hgd : ∀ m, GL strE 9 w.heap.size (wr.drewN m) (.slice (some ⟨g, 0, none⟩) n c1) (P' ++ x :: y :: (M ++ L.drop (k + 1))) := fun m => hgl'
          have hgl2 := fun m => GL.swapS (hgd m) hP'
          have hgb := hgl'.baseLe
          have hb2 : ∀ m, Below w.heap.size w (((wr.drewN m).setCell ⟨g, q + 1, none⟩ (.string x)).setCell ⟨g, q, none⟩ (.string y)) := fun m => (Below.setCell (Below.setCell (below_drewN hb' m) hgb _) hgb _)
          have hbd : ∀ m, Below w.heap.size w (wr.drewN m) := fun m => below_drewN hb' m
          have hf0 := hgl'.free q
          have hf1 := hgl'.free (q + 1)
          rcases h1 : Op.bytesLess x.toList y.toList with _ | _
          · rcases h2 : (x.toList == y.toList) with _ | _
            · have HS := Lib.hid (HI2.out.swap (notless_leS y x h1))
              go_wp2_with fail
              go_quiet (fail)
              go_wp2
              first | (refine ⟨⟨q, _, P', x :: M, by omega, by simp, hgl2 _, hb2 _, HS⟩, ?_⟩; (simp [intOf])) | (go_roundw; (case rel => first | exact ⟨q, _, P', x :: M, by omega, by simp, hgl2 _, hb2 _, HS⟩ | ((try refine ⟨trivial, ?_⟩); (repeat apply Exists.intro); exact ⟨⟨q, _, P', x :: M, by omega, by simp, hgl2 _, hb2 _, HS⟩, rfl⟩)); (case measure => (simp [intOf])))
            · have HS := Lib.hid (And.intro HI2.out.perm (HI2.out.stop (by rw [eqS_iff, decide_eq_true_eq] at h2; rw [h2]; exact leS_refl _)))
              rw [← HE] at hgd
              clear hgl2 hb2
              go_wp2_with fail
              go_quiet (fail)
              go_wp2
              first | (refine ⟨⟨k + 1, L', by omega, .inl (by omega), by simp, hgd _, hbd _, HS⟩, ?_⟩; (simp [intOf]; omega)) | (go_roundw; (case rel => first | exact ⟨k + 1, L', by omega, .inl (by omega), by simp, hgd _, hbd _, HS⟩ | ((try refine ⟨trivial, ?_⟩); (repeat apply Exists.intro); exact ⟨⟨k + 1, L', by omega, .inl (by omega), by simp, hgd _, hbd _, HS⟩, rfl⟩)); (case measure => (simp [intOf]; omega)))
          · have HS := Lib.hid (And.intro HI2.out.perm (HI2.out.stop (less_leS x y h1)))
            rw [← HE] at hgd
            clear hgl2 hb2
            go_wp2_with fail
            go_quiet (fail)
            go_wp2
            first | (refine ⟨⟨k + 1, L', by omega, .inl (by omega), by simp, hgd _, hbd _, HS⟩, ?_⟩; (simp [intOf]; omega)) | (go_roundw; (case rel => first | exact ⟨k + 1, L', by omega, .inl (by omega), by simp, hgd _, hbd _, HS⟩ | ((try refine ⟨trivial, ?_⟩); (repeat apply Exists.intro); exact ⟨⟨k + 1, L', by omega, .inl (by omega), by simp, hgd _, hbd _, HS⟩, rfl⟩)); (case measure => (simp [intOf]; omega)))
    · have HS : Hid (L = sortB l) := Lib.hid (sortB_of HP.out.1 (by have h := HP.out.2; rw [List.take_of_length_le (by have := hgl.len; omega)] at h; exact h))
      go_wp2
      go_ret
      exact RetL.mk hgl (by omega) HS.out.symm hb

open Go.Sort in
/-- slices.Sort on a list of the call's own -/
theorem i_sortS (g n c base : Nat) (l : List ByteArray) (w w0 : World) (hgl : GL strE 9 base w (.slice (some ⟨g, 0, none⟩) n c) l) (hn : n ≤ 4194304) (hb : Below base w0 w) :
    Calls Try.prog 38 #[.slice (some ⟨g, 0, none⟩) n c] w fun e w' => e = .returned (.tuple #[]) ∧ GL strE 9 base w' (.slice (some ⟨g, 0, none⟩) n c) (sortB l) ∧ Below base w0 w' := by
  have hlen := hgl.len
  have h0 : w.ownsRow base 9 1 (.slice (some ⟨g, 0, none⟩) n c) n ((l.map fun s => s.data.toList).map encStr) := by rw [enc_flat]; exact hgl.own.2
  obtain ⟨g', c', e', hbg, hgs, hnc, hcm, hl, hH⟩ := Lib.holds_of_ownsRow h0 (by simp)
  cases e'
  have h1 := Try.slices_Sort_string g 0 c (l.map fun s => s.data.toList) w hH hgs (by simp; omega)
  rw [hl] at h1
  refine h1.mono ?_
  rintro e w' ⟨rfl, k, os, rfl⟩
  have h2 := Lib.ownsRow_putRow (q := k) (k := n) (ys := (l.map fun s => s.data.toList).mergeSort fun x y => decide (x ≤ y)) h0 (by rw [List.length_mergeSort]; exact hl) (Nat.le_refl _)
  have hbelow : Below (w.heap.size) (putRow encStr (Sort.ahead w k) g 0 ((l.map fun s => s.data.toList).mergeSort fun x y => decide (x ≤ y)).toArray) (Sort.grow (putRow encStr (Sort.ahead w k) g 0 ((l.map fun s => s.data.toList).mergeSort fun x y => decide (x ≤ y)).toArray) os) := by
    refine ⟨rfl, rfl, rfl, by simp [Sort.grow], fun j hj => ?_⟩
    rw [heap_grow_old _ _ (by simpa [putRow, mapBlock, Sort.ahead] using hj)]
  have hz : (putRow encStr (Sort.ahead w k) g 0 ((l.map fun s => s.data.toList).mergeSort fun x y => decide (x ≤ y)).toArray).heap.size = w.heap.size := by simp [putRow, mapBlock, Sort.ahead]
  refine ⟨rfl, ?_, (Lib.below_putRow hb hbg).trans (hbelow.mono ?_)⟩
  · have h3 := own_below h2 (by rw [hz]; exact hbelow)
    have e : (((l.map fun s => s.data.toList).mergeSort fun x y => decide (x ≤ y)).take n).map encStr = (sortB l).flatMap strE.cells := by
      rw [← enc_flat, sortB_data, List.take_of_length_le (by rw [List.length_mergeSort]; omega)]
    rw [e] at h3
    unfold GL
    rw [sortB_length, hlen]
    exact h3
  · have := hb.size
    have hb2 : base ≤ w.heap.size := by omega
    exact hb2

def sortLn (l : List ByteArray) : List ByteArray := if repB l then sortB l else []
def repCode (l : List ByteArray) : Int := if repB l then 0 else 1
set_option maxHeartbeats 1000000 in
theorem S_SortLines (A : Option Addr) (n c : Nat) (l : List ByteArray) (w : World) (hr : Rd strE w A n l) (hn : n ≤ 1048576) (hg : ∀ x ∈ l, x.size ≤ maxLen) (hsum : sumS l ≤ 1048576) :
    Calls Try.prog 21 #[.slice A n c] w (RetLC strE 9 (sortLn l) (repCode l) w) := by
  have Hl := Lib.hid hr.1
  go_enter Try.func21, Try.ntmps21
  go_wp2_with fail
  refine (s_l30Ok A n c l _ hr (by unfold maxLen; omega) hg).mono ?_
  rintro e w1 ⟨rfl, hE⟩
  have hb1 : Below w.heap.size w w1 := hE ▸ Below.refl _ _
  clear hE
  rcases hB : repB l with _ | _
  · have E1 : Hid (sortLn l = []) := Lib.hid (by unfold sortLn; rw [hB]; rfl)
    have E2 : Hid (repCode l = 1) := Lib.hid (by unfold repCode; rw [hB]; rfl)
    clear hB
    go_wp2
    go_ret2
    exact RetLC.nil E1.out E2.out hb1
  · have E1 : Hid (sortLn l = sortB l) := Lib.hid (by unfold sortLn; rw [hB]; rfl)
    have E2 : Hid (repCode l = 0) := Lib.hid (by unfold repCode; rw [hB]; rfl)
    have hl := rep_le hB
    rw [Hl.out] at hl
    clear hB
    go_wp2_with fail
    refine (s_l30Sorted A n c l _ (hr.below hb1) (by omega)).mono ?_
    rintro e w2 ⟨A2, n2, c2, hl2, hn2, ho2, rfl, hb2⟩
    have hgl : GL strE 9 w1.heap.size w2 (.slice A2 n2 c2) (sortB l) := by unfold GL; rw [hl2]; exact ho2
    replace hgl := hgl.mono hb1.size
    replace hb1 := hb1.trans (hb2.mono hb1.size)
    clear ho2 hb2
    go_wp2
    go_ret2
    exact RetLC.mk hgl hn2 E1.out E2.out hb1

set_option maxHeartbeats 1000000 in
theorem I_SortLines (A : Option Addr) (n c : Nat) (l : List ByteArray) (w : World) (hr : Rd strE w A n l) (hn : n ≤ 1048576) (hg : ∀ x ∈ l, x.size ≤ maxLen) (hsum : sumS l ≤ 1048576) :
    Calls Try.prog 22 #[.slice A n c] w (RetLC strE 9 (sortLn l) (repCode l) w) := by
  have Hl := Lib.hid hr.1
  go_enter Try.func22, Try.ntmps22
  go_wp2_with fail
  refine (i_ValidReport A n c l _ hr (by unfold maxLen; omega) hg).mono ?_
  rintro e w1 ⟨rfl, hE⟩
  have hb1 : Below w.heap.size w w1 := hE ▸ Below.refl _ _
  clear hE
  rcases hB : repB l with _ | _
  · have E1 : Hid (sortLn l = []) := Lib.hid (by unfold sortLn; rw [hB]; rfl)
    have E2 : Hid (repCode l = 1) := Lib.hid (by unfold repCode; rw [hB]; rfl)
    clear hB
    go_wp2
    go_ret2
    exact RetLC.nil E1.out E2.out hb1
  · have E1 : Hid (sortLn l = sortB l) := Lib.hid (by unfold sortLn; rw [hB]; rfl)
    have E2 : Hid (repCode l = 0) := Lib.hid (by unfold repCode; rw [hB]; rfl)
    clear hB
    go_wp2_with fail
    refine (i_cloneS A n c l _ (hr.below hb1) (by omega)).mono ?_
    rintro e w3 ⟨g, rfl, hgl, hb⟩
    replace hgl := hgl.mono hb1.size
    replace hb1 := hb1.trans (hb.mono hb1.size); clear hb
    go_wp2_with fail
    refine (i_sortS g n n _ l _ w hgl (by omega) hb1).mono ?_
    rintro e w4 ⟨rfl, hgl2, hb2⟩
    go_wp2
    go_ret2
    exact RetLC.mk hgl2 (by omega) E1.out E2.out hb2

end Go.Proofs.Ytbblkmnafdmcdaa
