/- All blocks of two lists. -/
import Derived.Test.YtnbeomceiealdaaRows
import Derived.Test.YtnbeomceiealdaaPutI
namespace Go.Proofs.Ytnbeomceiealdaa
set_option linter.unusedVariables false
set_option linter.unusedSimpArgs false
set_option linter.unusedSectionVars false
open Go.RowKit

theorem cmpBl_swap (x y : DBlock) : cmpBl y x = - cmpBl x y := by
  unfold cmpBl cmpS
  rw [cmp_swap x.fKind.data.toList y.fKind.data.toList, cmp_swap x.fName.data.toList y.fName.data.toList]
  by_cases h : Lib.compareBytes x.fKind.data.toList y.fKind.data.toList = 0
  · rw [h]; rfl
  · rw [if_pos (by omega), if_pos h]
theorem SortedBl.pw {l : List DBlock} (h : SortedBl l) : l.Pairwise fun x y => cmpBl x y < 0 :=
  List.pairwise_iff_getElem.2 fun i j hi hj hij => h.lt i j _ _ hij (List.getElem?_eq_getElem hi) (List.getElem?_eq_getElem hj)
theorem SortedBl.mk' {l : List DBlock} (h1 : ∀ x ∈ l, blockB x = true) (h2 : l.Pairwise fun x y => cmpBl x y < 0) : SortedBl l := ⟨h1, fun i j x y hij hx hy => pair_lt h2 hij hx hy⟩
theorem SortedBl.ins {l : List DBlock} {b : DBlock} (h : SortedBl l) (hb : blockB b = true) : SortedBl (insB l b) := by
  have hp := h.parts (keyOf b.fKind b.fName)
  have hlo : ∀ x ∈ l.take (pOf l b), cmpBl x b < 0 := fun x hx => by
    obtain ⟨i, hi⟩ := List.mem_iff_getElem?.1 hx
    rw [List.getElem?_take] at hi
    split at hi
    · rename_i hlt; exact hp.lo i x hlt hi
    · cases hi
  have hhi : ∀ y ∈ l.drop (qOf l b), cmpBl b y < 0 := fun y hy => by
    obtain ⟨i, hi⟩ := List.mem_iff_getElem?.1 hy
    rw [List.getElem?_drop] at hi
    cases hf : fOf l b with
    | true =>
      have hq : qOf l b = pOf l b + 1 := by unfold qOf; rw [hf]; rfl
      obtain ⟨x, hx, h0⟩ := found_get (l := l) (key := keyOf b.fKind b.fName) (p := posOf l (keyOf b.fKind b.fName)) hf
      have h1 := h.lt _ _ x y (by show posOf l (keyOf b.fKind b.fName) < qOf l b + i; rw [hq]; unfold pOf; omega) hx hi
      rw [cmpBl_left h0] at h1
      exact h1
    | false =>
      have hq : qOf l b = pOf l b := by unfold qOf; rw [hf]; rfl
      have h1 := hp.hi (qOf l b + i) y (by rw [hq]; unfold pOf; omega) hi
      have h2 : ¬ cmpBl y (keyOf b.fKind b.fName) = 0 := fun h0 => by
        have := (h.at hi h0).2
        unfold fOf at hf
        rw [this] at hf
        cases hf
      have h3 := cmpBl_swap y (keyOf b.fKind b.fName)
      have h4 : cmpBl (keyOf b.fKind b.fName) y = cmpBl b y := rfl
      omega
  refine SortedBl.mk' (fun x hx => ?_) ?_
  · unfold insB at hx
    rcases List.mem_append.1 hx with hx | hx
    · rcases List.mem_append.1 hx with hx | hx
      · exact h.ok x (List.mem_of_mem_take hx)
      · simp at hx; subst hx; exact hb
    · exact h.ok x (List.mem_of_mem_drop hx)
  · unfold insB
    rw [List.pairwise_append, List.pairwise_append]
    refine ⟨⟨h.pw.sublist (List.take_sublist _ _), List.pairwise_singleton _ _, fun x hx y hy => ?_⟩, h.pw.sublist (List.drop_sublist _ _), fun x hx y hy => ?_⟩
    · simp at hy; subst hy; exact hlo x hx
    · rcases List.mem_append.1 hx with hx | hx
      · exact cmpBl_trans (hlo x hx) (hhi y hy)
      · simp at hx; subst hx; exact hhi y hy
theorem ins_ge {l : List DBlock} {b : DBlock} (h : SortedBl l) : l.length ≤ (insB l b).length ∧ (insB l b).length ≤ l.length + 1 := by
  rw [ins_len h]; split <;> omega
def mergeL (a b : List DBlock) : List DBlock := b.foldl insB a
theorem mergeL_step {a b : List DBlock} {k : Nat} {x : DBlock} (hx : b[k]? = some x) : mergeL a (b.take (k + 1)) = insB (mergeL a (b.take k)) x := by
  unfold mergeL
  rw [take_of_get hx, List.foldl_append]
  rfl
theorem merge_sorted : ∀ {b a : List DBlock}, SortedBl a → (∀ x ∈ b, blockB x = true) → SortedBl (mergeL a b) ∧ a.length ≤ (mergeL a b).length ∧ (mergeL a b).length ≤ a.length + b.length
  | [], a, h, _ => ⟨h, Nat.le_refl _, by simp [mergeL]⟩
  | x :: r, a, h, hb => by
    obtain ⟨h1, h2, h3⟩ := merge_sorted (b := r) (h.ins (hb x (List.mem_cons_self ..))) (fun y hy => hb y (List.mem_cons_of_mem _ hy))
    have h4 := ins_ge (b := x) h
    refine ⟨h1, ?_, ?_⟩
    · exact Nat.le_trans h4.1 h2
    · exact Nat.le_trans h3 (by simp only [List.length_cons]; omega)
theorem merge_take {a b : List DBlock} (ha : SortedBl a) (hb : ∀ x ∈ b, blockB x = true) (k : Nat) : SortedBl (mergeL a (b.take k)) ∧ a.length ≤ (mergeL a (b.take k)).length ∧ (mergeL a (b.take k)).length ≤ a.length + b.length ∧ (mergeL a (b.take k)).length ≤ (mergeL a b).length := by
  obtain ⟨h1, h2, h3⟩ := merge_sorted ha (fun x hx => hb x (List.mem_of_mem_take hx) : ∀ x ∈ b.take k, blockB x = true)
  refine ⟨h1, h2, Nat.le_trans h3 (by rw [List.length_take]; omega), ?_⟩
  have h4 := (merge_sorted (b := b.drop k) h1 (fun x hx => hb x (List.mem_of_mem_drop hx))).2.1
  have e : mergeL (mergeL a (b.take k)) (b.drop k) = mergeL a b := by
    unfold mergeL
    rw [← List.foldl_append, List.take_append_drop]
  rw [e] at h4
  exact h4
def mgRes (a b : List DBlock) : List DBlock := if blocksB a && blocksB b then (if 32 < (mergeL a b).length then [] else mergeL a b) else []
def mgCode (a b : List DBlock) : Int := if blocksB a && blocksB b then (if 32 < (mergeL a b).length then 5 else 0) else 1
theorem put_ok {l : List DBlock} {b : DBlock} (h : putCode l b = 0) : putRes l b = insB l b := by
  unfold putCode at h
  unfold putRes
  cases hf : fOf l b with
  | true => rfl
  | false =>
    rw [hf] at h
    simp only [Bool.false_eq_true, if_false] at h ⊢
    split at h
    · cases h
    · rename_i h32; rw [if_neg h32]
theorem put_full {l : List DBlock} {b : DBlock} (hs : SortedBl l) (h : putCode l b ≠ 0) : putCode l b = 5 ∧ (insB l b).length = 33 := by
  have h1 := ins_len (b := b) hs
  unfold putCode at h ⊢
  cases hf : fOf l b with
  | true => rw [hf] at h; exact absurd rfl h
  | false =>
    rw [hf] at h h1
    simp only [Bool.false_eq_true, if_false] at h h1 ⊢
    split at h
    · rename_i h32; rw [if_pos h32]; exact ⟨rfl, by omega⟩
    · exact absurd rfl h

set_option maxHeartbeats 2000000 in
theorem S_MergeBlocks (A : Option Addr) (n c : Nat) (l : List DBlock) (A' : Option Addr) (n' c' : Nat) (l' : List DBlock) (w : World) (hr : Rd blockE w A n l) (hn : n ≤ 1048576) (hg : ∀ x ∈ l, x.good) (hsum : sumBlock l ≤ 1048576) (hr' : Rd blockE w A' n' l') (hn' : n' ≤ 1048576) (hg' : ∀ x ∈ l', x.good) (hsum' : sumBlock l' ≤ 1048576) :
    Calls Try.prog 32 #[.slice A n c, .slice A' n' c'] w (RetLC blockE 26 (mgRes l l') (mgCode l l') w) := by
  obtain ⟨i0, hi, hz0, hz1, hz2⟩ := info_parts Try.inf_Block
  have Hl := Lib.hid hr.1
  have Hl' := Lib.hid hr'.1
  go_enter Try.func32, Try.ntmps32
  go_wp2_with fail
  refine (s_l29Ok A n c l _ hr (by unfold maxLen; omega) hg).mono ?_
  rintro e w1 ⟨rfl, hb1⟩
  rcases hB : blocksB l with _ | _
  · have E1 : Hid (mgRes l l' = []) := Lib.hid (by unfold mgRes; rw [hB]; rfl)
    have E2 : Hid (mgCode l l' = 1) := Lib.hid (by unfold mgCode; rw [hB]; rfl)
    clear hB
    go_wp2
    go_ret2
    exact RetLC.nil E1.out E2.out hb1
  · have HB := Lib.hid hB; clear hB
    go_wp2_with fail
    refine (s_l29Ok A' n' c' l' _ (hr'.below hb1) (by unfold maxLen; omega) hg').mono ?_
    rintro e w2 ⟨rfl, hb⟩
    replace hb1 := hb1.trans (hb.mono hb1.size); clear hb
    rcases hB' : blocksB l' with _ | _
    · have E1 : Hid (mgRes l l' = []) := Lib.hid (by unfold mgRes; rw [HB.out, hB']; rfl)
      have E2 : Hid (mgCode l l' = 1) := Lib.hid (by unfold mgCode; rw [HB.out, hB']; rfl)
      clear hB'
      go_wp2
      go_ret2
      exact RetLC.nil E1.out E2.out hb1
    · have HB' := Lib.hid hB'; clear hB'
      have HM := Lib.hid (merge_take (sorted_of_blocks HB.out) (sorted_of_blocks HB'.out).ok)
      have h32 := blocks_len HB.out
      have h32' := blocks_len HB'.out
      rw [Hl.out] at h32
      rw [Hl'.out] at h32'
      have hb2 : Below w.heap.size w (w2.alloc (.cells #[] 26)) := by (repeat (first | exact Below.refl _ _ | assumption | refine Below.drew ?_ | refine Below.alloc ?_ (by first | omega | (simp; done) | (simp; omega) | exact Below.size (by assumption)) _ | refine Below.setCell ?_ (by first | omega | (simp; done) | (simp; omega)) _))
      have hr2 := hr.below hb2
      have hgl0 : GL blockE 26 w.heap.size (w2.alloc (.cells #[] 26)) (.slice (some ⟨w2.heap.size, 0, none⟩) 0 0) [] := GL.mk0 hb1.size
      go_wp2_with (at_builtin; refine wpList_pushL blockE rfl (.tmp 16) (.tmp 17) 32 rfl w.heap.size 26 i0 _ 48 Try.underlying32 hi hz0 hz1 hz2 rfl (.slice (some ⟨w2.heap.size, 0, none⟩) 0 0) [] l rfl hgl0 A n c rfl Hl.out (Rd.noneLen hr) (Rd.src hr2) n (by simp) l (by simp) (by omega) (by decide) w hb2 hb2.size ?_; intro A1 c1 w3 hgl1 _ hb3 hs3)
      go_loopw [6, 7] (fun v i wr => ∃ (k : Nat) (r : List DBlock) (B : Option Addr) (m d : Nat), k ≤ n' ∧ i = .int .i64 k ∧ v = .slice B m d ∧ m ≤ 64 ∧ GL blockE 26 w.heap.size wr (.slice B m d) r ∧ Below w.heap.size w wr ∧ Hid (r = mergeL l (l'.take k))) (fun _ i _ => n' - (intOf i).toNat)
      case atStart => exact ⟨0, l, A1, n, c1, Nat.zero_le _, rfl, rfl, by omega, hgl1, hb3, Lib.hid rfl⟩
      case round =>
        obtain ⟨k, r, B, m, d, hk, rfl, rfl, hm, hgl, hb, HR⟩ := hrel
        by_cases hlt : k < n'
        · obtain ⟨b, off, rfl, hcs⟩ := hr'.2 (by omega)
          obtain ⟨x, hx⟩ : ∃ x, l'[k]? = some x := ⟨_, List.getElem?_eq_getElem (by have := Hl'.out; omega)⟩
          have hcr := range_below (B := 0) (hcs k x hx) hb
          have hc0 := hcr 0 (.string x.fKind) rfl
          have hc1 := hcr 1 (.string x.fName) rfl
          have hc2 := hcr 2 (.string x.fText) rfl
          simp only [blockE, Nat.add_zero] at hc0 hc1 hc2
          have HX := Lib.hid hx
          clear hcr hcs hx
          go_wp2_with fail
          refine (s_l29Put B m d r x _ hgl.rd (by omega) (by rw [HR.out]; exact (HM.out k).1)).mono ?_
          rintro e w4 ⟨A4, n4, c4, hl4, hn4, ho4, rfl, hb4⟩
          have hgl4 : GL blockE 26 w.heap.size w4 (.slice A4 n4 c4) (insB r x) := GL.mono (by unfold GL; rw [hl4]; exact ho4) hb.size
          have hbn := hb.trans (hb4.mono hb.size)
          have HR' : Hid (insB r x = mergeL l (l'.take (k + 1))) := Lib.hid (by rw [mergeL_step HX.out, HR.out])
          have hn64 : n4 ≤ 64 := by
            have h1 := (HM.out (k + 1)).2.2.1
            rw [← HR'.out, hl4, Hl.out, Hl'.out] at h1
            omega
          clear hl4 ho4 hb4
          go_wp2
          first | (refine ⟨⟨k + 1, insB r x, A4, n4, c4, by omega, by go_num, rfl, hn64, hgl4, hbn, HR'⟩, ?_⟩; (simp [intOf]; omega)) | (go_roundw; (case rel => exact ⟨k + 1, insB r x, A4, n4, c4, by omega, by go_num, rfl, hn64, hgl4, hbn, HR'⟩); (case measure => (simp [intOf]; omega)))
        · have E : Hid (r = mergeL l l') := Lib.hid (by rw [HR.out, List.take_of_length_le (by have := Hl'.out; omega)])
          have hlen := hgl.len
          by_cases hgt : 32 < m
          · have E1 : Hid (mgRes l l' = []) := Lib.hid (by unfold mgRes; rw [HB.out, HB'.out, Bool.and_self, ← E.out, if_pos rfl, if_pos (by omega)])
            have E2 : Hid (mgCode l l' = 5) := Lib.hid (by unfold mgCode; rw [HB.out, HB'.out, Bool.and_self, ← E.out, if_pos rfl, if_pos (by omega)])
            clear hlen
            go_wp2
            go_ret2
            exact RetLC.nil E1.out E2.out hb
          · have E1 : Hid (mgRes l l' = r) := Lib.hid (by unfold mgRes; rw [HB.out, HB'.out, Bool.and_self, ← E.out, if_pos rfl, if_neg (by omega)])
            have E2 : Hid (mgCode l l' = 0) := Lib.hid (by unfold mgCode; rw [HB.out, HB'.out, Bool.and_self, ← E.out, if_pos rfl, if_neg (by omega)])
            clear hlen
            go_wp2
            go_ret2
            exact RetLC.mk hgl (by omega) E1.out E2.out hb

set_option maxHeartbeats 2000000 in
theorem I_MergeBlocks (A : Option Addr) (n c : Nat) (l : List DBlock) (A' : Option Addr) (n' c' : Nat) (l' : List DBlock) (w : World) (hr : Rd blockE w A n l) (hn : n ≤ 1048576) (hg : ∀ x ∈ l, x.good) (hsum : sumBlock l ≤ 1048576) (hr' : Rd blockE w A' n' l') (hn' : n' ≤ 1048576) (hg' : ∀ x ∈ l', x.good) (hsum' : sumBlock l' ≤ 1048576) :
    Calls Try.prog 33 #[.slice A n c, .slice A' n' c'] w (RetLC blockE 26 (mgRes l l') (mgCode l l') w) := by
  have Hl := Lib.hid hr.1
  have Hl' := Lib.hid hr'.1
  go_enter Try.func33, Try.ntmps33
  go_wp2_with fail
  refine (i_ValidBlocks A n c l _ hr (by unfold maxLen; omega) hg).mono ?_
  rintro e w1 ⟨rfl, hb1⟩
  rcases hB : blocksB l with _ | _
  · have E1 : Hid (mgRes l l' = []) := Lib.hid (by unfold mgRes; rw [hB]; rfl)
    have E2 : Hid (mgCode l l' = 1) := Lib.hid (by unfold mgCode; rw [hB]; rfl)
    clear hB
    go_wp2
    go_ret2
    exact RetLC.nil E1.out E2.out hb1
  · have HB := Lib.hid hB; clear hB
    go_wp2_with fail
    refine (i_ValidBlocks A' n' c' l' _ (hr'.below hb1) (by unfold maxLen; omega) hg').mono ?_
    rintro e w2 ⟨rfl, hb⟩
    replace hb1 := hb1.trans (hb.mono hb1.size); clear hb
    rcases hB' : blocksB l' with _ | _
    · have E1 : Hid (mgRes l l' = []) := Lib.hid (by unfold mgRes; rw [HB.out, hB']; rfl)
      have E2 : Hid (mgCode l l' = 1) := Lib.hid (by unfold mgCode; rw [HB.out, hB']; rfl)
      clear hB'
      go_wp2
      go_ret2
      exact RetLC.nil E1.out E2.out hb1
    · have HB' := Lib.hid hB'; clear hB'
      have HM := Lib.hid (merge_take (sorted_of_blocks HB.out) (sorted_of_blocks HB'.out).ok)
      have h32 := blocks_len HB.out
      have h32' := blocks_len HB'.out
      rw [Hl.out] at h32
      rw [Hl'.out] at h32'
      go_wp2_with fail
      refine (i_cloneBlock A n c l _ (hr.below hb1) (by omega)).mono ?_
      rintro e w3 ⟨g, rfl, hgl1, hb⟩
      replace hgl1 := hgl1.mono hb1.size
      have hb3 := hb1.trans (hb.mono hb1.size); clear hb
      go_wp2_with fail
      go_loopw [6, 23] (fun v i wr => ∃ (k : Nat) (r : List DBlock) (B : Option Addr) (m d : Nat), k ≤ n' ∧ i = .int .i64 k ∧ v = .slice B m d ∧ m ≤ 32 ∧ GL blockE 26 w.heap.size wr (.slice B m d) r ∧ Below w.heap.size w wr ∧ Hid (r = mergeL l (l'.take k))) (fun _ i _ => n' - (intOf i).toNat)
      case atStart => exact ⟨0, l, _, n, n, Nat.zero_le _, rfl, rfl, by omega, hgl1, hb3, Lib.hid rfl⟩
      case round =>
        obtain ⟨k, r, B, m, d, hk, rfl, rfl, hm, hgl, hb, HR⟩ := hrel
        by_cases hlt : k < n'
        · obtain ⟨b, off, rfl, hcs⟩ := hr'.2 (by omega)
          obtain ⟨x, hx⟩ : ∃ x, l'[k]? = some x := ⟨_, List.getElem?_eq_getElem (by have := Hl'.out; omega)⟩
          have hcr := range_below (B := 0) (hcs k x hx) hb
          have hc0 := hcr 0 (.string x.fKind) rfl
          have hc1 := hcr 1 (.string x.fName) rfl
          have hc2 := hcr 2 (.string x.fText) rfl
          simp only [blockE, Nat.add_zero] at hc0 hc1 hc2
          have HX := Lib.hid hx
          have hbx : Below wr.heap.size wr (wr.alloc (.cells #[.string x.fKind, .string x.fName, .string x.fText] 26)) := (Below.refl _ _).alloc (Nat.le_refl _) _
          have hS := HM.out k
          rw [← HR.out] at hS
          have HSo := Lib.hid hS.1
          clear hcr hcs hx hS
          go_wp2_with fail
          refine (i_put B m d r x _ (hgl.below hbx).rd (by omega) HSo.out).mono ?_
          rintro e w4 ⟨A4, n4, c4, hl4, hn4, ho4, rfl, hb4⟩
          have hb' : Below w.heap.size w (wr.alloc (.cells #[.string x.fKind, .string x.fName, .string x.fText] 26)) := hb.trans (hbx.mono hb.size)
          have hgl4 : GL blockE 26 w.heap.size w4 (.slice A4 n4 c4) (putRes r x) := GL.mono (by unfold GL; rw [hl4]; exact ho4) hb'.size
          have hbn := hb'.trans (hb4.mono hb'.size)
          have HR' : Hid (insB r x = mergeL l (l'.take (k + 1))) := Lib.hid (by rw [mergeL_step HX.out, HR.out])
          by_cases hc : putCode r x = 0
          · have hr4 := put_ok hc
            rw [hr4] at hgl4 hl4
            have hn32 : n4 ≤ 32 := by
              have h1 := ins_len (b := x) HSo.out
              have h2 := hgl.len
              rw [hl4] at h1
              unfold putCode at hc
              split at hc
              · rename_i hf; rw [if_pos hf] at h1; omega
              · split at hc
                · cases hc
                · rename_i hf h3; rw [if_neg hf] at h1; omega
            rw [hc]
            clear hl4 ho4 hb4 hc hr4
            go_wp2
            first | (refine ⟨⟨k + 1, insB r x, A4, n4, c4, by omega, by go_num, rfl, hn32, hgl4, hbn, HR'⟩, ?_⟩; (simp [intOf]; omega)) | (go_roundw; (case rel => exact ⟨k + 1, insB r x, A4, n4, c4, by omega, by go_num, rfl, hn32, hgl4, hbn, HR'⟩); (case measure => (simp [intOf]; omega)))
          · obtain ⟨h5, h33⟩ := put_full HSo.out hc
            have hgt : 32 < (mergeL l l').length := by
              have h1 := (HM.out (k + 1)).2.2.2
              rw [← HR'.out] at h1
              omega
            have E1 : Hid (mgRes l l' = []) := Lib.hid (by unfold mgRes; rw [HB.out, HB'.out, Bool.and_self, if_pos rfl, if_pos hgt])
            have E2 : Hid (mgCode l l' = 5) := Lib.hid (by unfold mgCode; rw [HB.out, HB'.out, Bool.and_self, if_pos rfl, if_pos hgt])
            rw [h5]
            clear hl4 ho4 hb4 hc h5 h33 hgt
            go_wp2
            go_ret2
            exact RetLC.nil E1.out E2.out hbn
        · have E : Hid (r = mergeL l l') := Lib.hid (by rw [HR.out, List.take_of_length_le (by have := Hl'.out; omega)])
          have hlen := hgl.len
          have E1 : Hid (mgRes l l' = r) := Lib.hid (by unfold mgRes; rw [HB.out, HB'.out, Bool.and_self, ← E.out, if_pos rfl, if_neg (by omega)])
          have E2 : Hid (mgCode l l' = 0) := Lib.hid (by unfold mgCode; rw [HB.out, HB'.out, Bool.and_self, ← E.out, if_pos rfl, if_neg (by omega)])
          clear hlen
          go_wp2
          go_ret2
          exact RetLC.mk hgl (by omega) E1.out E2.out hb

end Go.Proofs.Ytnbeomceiealdaa
