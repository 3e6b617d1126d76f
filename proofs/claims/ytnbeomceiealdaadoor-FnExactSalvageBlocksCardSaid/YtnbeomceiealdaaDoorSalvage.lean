/- The blocks of all lines that have one: both sides. -/
import Derived.Test.YtnbeomceiealdaaDoorRows
import Derived.Test.YtnbeomceiealdaaDoorDamaged
import Derived.Test.YtnbeomceiealdaaDoorMerge
namespace Go.Proofs.YtnbeomceiealdaaDoor
set_option linter.unusedVariables false
set_option linter.unusedSimpArgs false
set_option linter.unusedSectionVars false
open Go.RowKit

def salStep (l : List DBlock) (x : ByteArray) : List DBlock := if codeP (bl x) = 0 then (if (insB l (blockP (bl x))).length ≤ 32 then insB l (blockP (bl x)) else l) else l
def salT (W : List ByteArray) : Nat → List DBlock
  | 0 => []
  | k + 1 => if k = 0 then [] else salStep (salT W k) (lineAt W k)
theorem sal_one (W : List ByteArray) : salT W 1 = [] := by rw [salT, if_pos rfl]
theorem sal_next {W : List ByteArray} {k : Nat} {x : ByteArray} (hx : W[k]? = some x) (h1 : 1 ≤ k) : salT W (k + 1) = salStep (salT W k) x := by rw [salT, if_neg (by omega), lineAt_get hx]
theorem block_of_code {l : List UInt8} (h : codeP l = 0) : blockB (blockP l) = true := by
  unfold blockP
  rw [if_pos h]
  unfold codeP at h
  split at h
  · split at h
    · split at h
      · rename_i hg
        unfold goodRest at hg
        simp only [Bool.and_eq_true] at hg
        exact hg.2.2
      · cases h
    · cases h
  · cases h
theorem sorted_nil : SortedBl [] := SortedBl.mk' (fun x h => by cases h) List.Pairwise.nil
theorem salStep_ok {l : List DBlock} {x : ByteArray} (h : SortedBl l) (hl : l.length ≤ 32) : SortedBl (salStep l x) ∧ (salStep l x).length ≤ 32 := by
  unfold salStep
  split
  · rename_i hc
    split
    · rename_i h32
      exact ⟨h.ins (block_of_code hc), h32⟩
    · exact ⟨h, hl⟩
  · exact ⟨h, hl⟩
theorem sal_ok (W : List ByteArray) : ∀ k, SortedBl (salT W k) ∧ (salT W k).length ≤ 32
  | 0 => ⟨sorted_nil, by simp [salT]⟩
  | k + 1 => by
    rw [salT]
    split
    · exact ⟨sorted_nil, by simp⟩
    · exact salStep_ok (sal_ok W k).1 (sal_ok W k).2
theorem salT_bad {l : List DBlock} {x : ByteArray} (h : codeP (bl x) ≠ 0) : salStep l x = l := by unfold salStep; rw [if_neg h]
theorem salT_in {l : List DBlock} {x : ByteArray} (h : codeP (bl x) = 0) (h2 : (insB l (blockP (bl x))).length ≤ 32) : salStep l x = insB l (blockP (bl x)) := by unfold salStep; rw [if_pos h, if_pos h2]
theorem salT_full {l : List DBlock} {x : ByteArray} (h : codeP (bl x) = 0) (h2 : ¬ (insB l (blockP (bl x))).length ≤ 32) : salStep l x = l := by unfold salStep; rw [if_pos h, if_neg h2]
def salL (s : ByteArray) : List DBlock := salT (cutsB 10 s) ((cutsB 10 s).length - 1)
theorem put_fits {l : List DBlock} {b : DBlock} (hs : SortedBl l) (hl : l.length ≤ 32) : (insB l b).length ≤ 32 → putCode l b = 0 ∧ putRes l b = insB l b := by
  intro h
  rw [ins_len hs] at h
  unfold putCode putRes
  cases hf : fOf l b with
  | true => exact ⟨rfl, rfl⟩
  | false =>
    rw [hf] at h
    simp only [Bool.false_eq_true, if_false] at h ⊢
    rw [if_neg (by omega), if_neg (by omega)]
    exact ⟨rfl, rfl⟩
theorem put_fullC {l : List DBlock} {b : DBlock} (hs : SortedBl l) (hl : l.length ≤ 32) : ¬ (insB l b).length ≤ 32 → putCode l b = 5 := by
  intro h
  rw [ins_len hs] at h
  unfold putCode
  cases hf : fOf l b with
  | true => rw [hf] at h; simp at h; omega
  | false =>
    rw [hf] at h
    simp only [Bool.false_eq_true, if_false] at h ⊢
    rw [if_pos (by omega)]

set_option maxRecDepth 100000 in
set_option maxHeartbeats 4000000 in
theorem S_SalvageBlocks (s : ByteArray) (w : World) (hs : s.size ≤ 1048576) :
    Calls Tryd.prog 16 #[.string s] w (RetL blockE 42 (salL s) w) := by
  obtain ⟨m, p, hlen, hp⟩ := cuts_last_get s
  have HSZ := Lib.hid (fun x (hx : x ∈ cutsB 10 s) => cuts_small hx)
  have hlines := s_l29Lines s w hs hlen hp
  have HLEN := Lib.hid hlen
  obtain ⟨B, hB⟩ : ∃ B, (p.toList == []) = B := ⟨_, rfl⟩
  rw [hB] at hlines
  clear hp hlen hB
  go_enter Tryd.func16, Tryd.ntmps16
  go_wp2_with fail
  refine hlines.mono ?_
  rintro e w1 ⟨A, c, hm3, rfl, hrd, hb1⟩
  clear hlines
  have hz1 := hb1.size
  have hgl0 : GL blockE 42 w1.heap.size (w1.alloc (.cells #[] 42)) (.slice (some ⟨w1.heap.size, 0, none⟩) 0 0) [] := GL.mk0 (Nat.le_refl _)
  have hb0 : Below w1.heap.size w1 (w1.alloc (.cells #[] 42)) := (Below.refl _ _).alloc (Nat.le_refl _) _
  go_wp2_with fail
  go_loopw [5, 6] (fun v i wr => ∃ (k z : Nat) (r : List DBlock) (A' : Option Addr) (c' : Nat), 1 ≤ k ∧ (k ≤ m ∨ k = 1) ∧ i = .int .i64 k ∧ v = .slice A' z c' ∧ GL blockE 42 w1.heap.size wr (.slice A' z c') r ∧ Below w1.heap.size w1 wr ∧ Hid (r = salT (cutsB 10 s) k)) (fun _ i _ => m + 1 - (intOf i).toNat)
  case atStart => exact ⟨1, 0, [], _, _, Nat.le_refl _, .inr rfl, rfl, rfl, hgl0, hb0, Lib.hid (sal_one _).symm⟩
  case round =>
    clear hb0 hgl0
    obtain ⟨k, z, r, A', c', h1k, hkm, rfl, rfl, hgl, hb, HR⟩ := hrel
    have hok := sal_ok (cutsB 10 s) k
    rw [← HR.out] at hok
    have hz32 : z ≤ 32 := by have := hgl.len; omega
    by_cases hlt : k < m
    · obtain ⟨b, off, x, hA, hx, hc⟩ := hrd.get hlt
      subst hA
      have hc0 := range_below (B := 0) hc hb 0 (.string x) rfl
      simp only [strE, Nat.mul_one, Nat.add_zero] at hc0
      rw [List.getElem?_take_of_lt hlt] at hx
      have hxs := HSZ.out x (List.mem_of_getElem? hx)
      have hpx := s_l29Parse x wr (by omega)
      have HX := Lib.hid (sal_next hx h1k)
      have HOK := Lib.hid hok
      unfold ParseR at hpx
      clear hc hx hok
      rcases codeP_vals (bl x) with hcd | hcd | hcd
      · have hput := fun (b : DBlock) W (h : Rd blockE W A' z r) => s_l29Put A' z c' r b W h (by omega) HOK.out.1
        rw [hcd] at hpx
        have HCD := Lib.hid hcd
        clear hcd
        go_wp2_with fail
        refine hpx.mono ?_
        rintro e w3 ⟨y, Hy, rfl, hb3⟩
        clear hpx
        have hgl3 := (hgl.below hb3).alloc (.cells #[.string y.fKind, .string y.fName, .string y.fText] 42)
        have hbN := hb.trans (hb3.mono hb.size)
        have hb4 : Below w1.heap.size w1 (w3.alloc (.cells #[.string y.fKind, .string y.fName, .string y.fText] 42)) := hbN.alloc hbN.size _
        have hp4 := hput y _ hgl3.rd
        clear hput
        go_wp2_with fail
        refine hp4.mono ?_
        rintro e w5 ⟨A5, n5, c5, hl5, hn5, ho5, rfl, hb5⟩
        have hbM := hb4.trans (hb5.mono hb4.size)
        have hgl5 : GL blockE 42 w1.heap.size w5 (.slice A5 n5 c5) (insB r y) := by
          have h0 : GL blockE 42 (w3.alloc (.cells #[.string y.fKind, .string y.fName, .string y.fText] 42)).heap.size w5 (.slice A5 n5 c5) (insB r y) := by
            unfold GL
            rw [hl5]
            exact ho5
          exact h0.mono hb4.size
        have hgl3' := hgl3.below hb5
        clear hp4 ho5
        by_cases hfit : n5 ≤ 32
        · have HK : Hid (insB r y = salT (cutsB 10 s) (k + 1)) := Lib.hid (by rw [HX.out, ← HR.out, salT_in HCD.out (by rw [← Hy.out, hl5]; exact hfit), ← Hy.out])
          go_wp2
          first | (refine ⟨⟨k + 1, n5, insB r y, A5, c5, by omega, .inl (by omega), by go_num, rfl, hgl5, hbM, HK⟩, ?_⟩; (simp [intOf]; omega)) | (go_roundw; (case rel => first | exact ⟨k + 1, n5, insB r y, A5, c5, by omega, .inl (by omega), by go_num, rfl, hgl5, hbM, HK⟩ | ((try refine ⟨trivial, ?_⟩); (repeat apply Exists.intro); exact ⟨⟨k + 1, n5, insB r y, A5, c5, by omega, .inl (by omega), by go_num, rfl, hgl5, hbM, HK⟩, rfl⟩)); (case measure => (simp [intOf]; omega)))
        · have HK : Hid (r = salT (cutsB 10 s) (k + 1)) := Lib.hid (by rw [HX.out, ← HR.out, salT_full HCD.out (by rw [← Hy.out, hl5]; exact hfit)])
          go_wp2
          first | (refine ⟨⟨k + 1, z, r, A', c', by omega, .inl (by omega), by go_num, rfl, hgl3', hbM, HK⟩, ?_⟩; (simp [intOf]; omega)) | (go_roundw; (case rel => first | exact ⟨k + 1, z, r, A', c', by omega, .inl (by omega), by go_num, rfl, hgl3', hbM, HK⟩ | ((try refine ⟨trivial, ?_⟩); (repeat apply Exists.intro); exact ⟨⟨k + 1, z, r, A', c', by omega, .inl (by omega), by go_num, rfl, hgl3', hbM, HK⟩, rfl⟩)); (case measure => (simp [intOf]; omega)))
      · have HK : Hid (r = salT (cutsB 10 s) (k + 1)) := Lib.hid (by rw [HX.out, ← HR.out, salT_bad (by rw [hcd]; decide)])
        rw [hcd] at hpx
        clear hcd
        go_wp2_with fail
        refine hpx.mono ?_
        rintro e w3 ⟨y, Hy, rfl, hb3⟩
        clear hpx
        have hgl3 := (hgl.below hb3).alloc (.cells #[.string y.fKind, .string y.fName, .string y.fText] 42)
        have hbN := hb.trans (hb3.mono hb.size)
        have hb4 : Below w1.heap.size w1 (w3.alloc (.cells #[.string y.fKind, .string y.fName, .string y.fText] 42)) := hbN.alloc hbN.size _
        go_wp2
        first | (refine ⟨⟨k + 1, z, r, A', c', by omega, .inl (by omega), by go_num, rfl, hgl3, hb4, HK⟩, ?_⟩; (simp [intOf]; omega)) | (go_roundw; (case rel => first | exact ⟨k + 1, z, r, A', c', by omega, .inl (by omega), by go_num, rfl, hgl3, hb4, HK⟩ | ((try refine ⟨trivial, ?_⟩); (repeat apply Exists.intro); exact ⟨⟨k + 1, z, r, A', c', by omega, .inl (by omega), by go_num, rfl, hgl3, hb4, HK⟩, rfl⟩)); (case measure => (simp [intOf]; omega)))
      · have HK : Hid (r = salT (cutsB 10 s) (k + 1)) := Lib.hid (by rw [HX.out, ← HR.out, salT_bad (by rw [hcd]; decide)])
        rw [hcd] at hpx
        clear hcd
        go_wp2_with fail
        refine hpx.mono ?_
        rintro e w3 ⟨y, Hy, rfl, hb3⟩
        clear hpx
        have hgl3 := (hgl.below hb3).alloc (.cells #[.string y.fKind, .string y.fName, .string y.fText] 42)
        have hbN := hb.trans (hb3.mono hb.size)
        have hb4 : Below w1.heap.size w1 (w3.alloc (.cells #[.string y.fKind, .string y.fName, .string y.fText] 42)) := hbN.alloc hbN.size _
        go_wp2
        first | (refine ⟨⟨k + 1, z, r, A', c', by omega, .inl (by omega), by go_num, rfl, hgl3, hb4, HK⟩, ?_⟩; (simp [intOf]; omega)) | (go_roundw; (case rel => first | exact ⟨k + 1, z, r, A', c', by omega, .inl (by omega), by go_num, rfl, hgl3, hb4, HK⟩ | ((try refine ⟨trivial, ?_⟩); (repeat apply Exists.intro); exact ⟨⟨k + 1, z, r, A', c', by omega, .inl (by omega), by go_num, rfl, hgl3, hb4, HK⟩, rfl⟩)); (case measure => (simp [intOf]; omega)))
    · have E : Hid (salL s = r) := Lib.hid (by
        unfold salL
        rw [HLEN.out, Nat.add_sub_cancel, HR.out]
        rcases hkm with h | h
        · rw [show k = m by omega]
        · subst h
          have : m = 0 ∨ m = 1 := by omega
          rcases this with h | h <;> rw [h, sal_one]
          rfl)
      have hbW := hb1.trans (hb.mono hz1)
      clear hkm
      go_wp2
      go_ret
      exact RetL.mk (hgl.mono hz1) (by omega) E.out hbW

set_option maxRecDepth 100000 in
set_option maxHeartbeats 4000000 in
theorem I_SalvageBlocks (s : ByteArray) (w : World) (hs : s.size ≤ 1048576) (hL : LibW w) :
    Calls Tryd.prog 17 #[.string s] w (RetL blockE 42 (salL s) w) := by
  obtain ⟨m, p, hlen, hp⟩ := cuts_last_get s
  have HSZ := Lib.hid (fun x (hx : x ∈ cutsB 10 s) => cuts_small hx)
  have HLEN := Lib.hid hlen
  have hb1 : Below w.heap.size w (w.alloc (.cells #[] 42)) := (Below.refl _ _).alloc (Nat.le_refl _) _
  have hgo : GL blockE 42 w.heap.size (w.alloc (.cells #[] 42)) (.slice (some ⟨w.heap.size, 0, none⟩) 0 0) [] := GL.mk0 (Nat.le_refl _)
  obtain ⟨W1, hW1⟩ : ∃ W1, w.alloc (.cells #[] 42) = W1 := ⟨_, rfl⟩
  rw [hW1] at hb1 hgo
  clear hp
  go_enter Tryd.func17, Tryd.ntmps17
  go_wp2_with fail
  try rw [hW1]
  clear hW1
  refine (i_Split s 10 _ hs (hL.below hb1)).mono ?_
  rintro e w1 ⟨A, n, c, hl, hn, rfl, hgl, hb⟩
  obtain rfl : n = m + 1 := hl.symm.trans hlen
  have hb2 : Below w.heap.size w w1 := hb1.trans (hb.mono hb1.size)
  have hgo1 := hgo.below hb
  have hrd := hgl.rd
  clear hl hgl hgo hb1 hlen hb
  go_wp2_with fail
  go_loopw [3, 5] (fun v i wr => ∃ (k z : Nat) (r : List DBlock) (A' : Option Addr) (c' : Nat), 1 ≤ k ∧ (k ≤ m ∨ k = 1) ∧ i = .int .i64 k ∧ v = .slice A' z c' ∧ GL blockE 42 w.heap.size wr (.slice A' z c') r ∧ Below w1.heap.size w1 wr ∧ Hid (r = salT (cutsB 10 s) k)) (fun _ i _ => m + 1 - (intOf i).toNat)
  case atStart => exact ⟨1, 0, [], _, _, Nat.le_refl _, .inr rfl, rfl, rfl, hgo1, Below.refl _ _, Lib.hid (sal_one _).symm⟩
  case round =>
    clear hgo1
    obtain ⟨k, z, r, A', c', h1k, hkm, rfl, rfl, hgl, hb, HR⟩ := hrel
    have hok := sal_ok (cutsB 10 s) k
    rw [← HR.out] at hok
    have hz32 : z ≤ 32 := by have := hgl.len; omega
    have hbr := hb2.trans (hb.mono hb2.size)
    have hm1 : (m : Int) + 1 - 1 = m := by omega
    by_cases hlt : k < m
    · obtain ⟨b, off, x, hA, hx, hc⟩ := hrd.get (k := k) (by omega)
      subst hA
      have hc0 := range_below (B := 0) hc hb 0 (.string x) rfl
      simp only [strE, Nat.mul_one, Nat.add_zero] at hc0
      have hxs := HSZ.out x (List.mem_of_getElem? hx)
      have hpx := i_readBlock x wr (by omega) (hL.below hbr)
      have HX := Lib.hid (sal_next hx h1k)
      have HOK := Lib.hid hok
      unfold ParseR at hpx
      clear hc hx hok
      rcases codeP_vals (bl x) with hcd | hcd | hcd
      · have hput := fun (b : DBlock) W (h : Rd blockE W A' z r) => i_put A' z c' r b W h (by omega) HOK.out.1
        rw [hcd] at hpx
        have HCD := Lib.hid hcd
        clear hcd
        go_wp2_with fail
        refine hpx.mono ?_
        rintro e w3 ⟨y, Hy, rfl, hb3⟩
        clear hpx
        have hgl3 := (hgl.below hb3).alloc (.cells #[.string y.fKind, .string y.fName, .string y.fText] 42)
        have hbN := hb.trans (hb3.mono hb.size)
        have hb4 : Below w1.heap.size w1 (w3.alloc (.cells #[.string y.fKind, .string y.fName, .string y.fText] 42)) := hbN.alloc hbN.size _
        have hp4 := hput y _ hgl3.rd
        clear hput
        by_cases hfit : (insB r y).length ≤ 32
        · have HK : Hid (insB r y = salT (cutsB 10 s) (k + 1)) := Lib.hid (by rw [HX.out, ← HR.out, salT_in HCD.out (by rw [← Hy.out]; exact hfit), ← Hy.out])
          obtain ⟨q1, q2⟩ := put_fits HOK.out.1 (by have := HOK.out.2; omega) hfit
          rw [q1, q2] at hp4
          clear q1 q2 hfit
          go_wp2_with fail
          refine hp4.mono ?_
          rintro e w5 ⟨A5, n5, c5, hl5, hn5, ho5, rfl, hb5⟩
          have hbM := hb4.trans (hb5.mono hb4.size)
          have hgl5 : GL blockE 42 w.heap.size w5 (.slice A5 n5 c5) (insB r y) := by
            have h0 : GL blockE 42 (w3.alloc (.cells #[.string y.fKind, .string y.fName, .string y.fText] 42)).heap.size w5 (.slice A5 n5 c5) (insB r y) := by
              unfold GL
              rw [hl5]
              exact ho5
            exact h0.mono (Nat.le_trans hb2.size hb4.size)
          clear hp4 ho5 hl5
          go_wp2
          first | (refine ⟨⟨k + 1, n5, insB r y, A5, c5, by omega, .inl (by omega), by go_num, rfl, hgl5, hbM, HK⟩, ?_⟩; (simp [intOf]; omega)) | (go_roundw; (case rel => first | exact ⟨k + 1, n5, insB r y, A5, c5, by omega, .inl (by omega), by go_num, rfl, hgl5, hbM, HK⟩ | ((try refine ⟨trivial, ?_⟩); (repeat apply Exists.intro); exact ⟨⟨k + 1, n5, insB r y, A5, c5, by omega, .inl (by omega), by go_num, rfl, hgl5, hbM, HK⟩, rfl⟩)); (case measure => (simp [intOf]; omega)))
        · have HK : Hid (r = salT (cutsB 10 s) (k + 1)) := Lib.hid (by rw [HX.out, ← HR.out, salT_full HCD.out (by rw [← Hy.out]; exact hfit)])
          have q1 := put_fullC HOK.out.1 (by have := HOK.out.2; omega) hfit
          rw [q1] at hp4
          clear q1 hfit
          go_wp2_with fail
          refine hp4.mono ?_
          rintro e w5 ⟨A5, n5, c5, hl5, hn5, ho5, rfl, hb5⟩
          have hbM := hb4.trans (hb5.mono hb4.size)
          have hgl3' := hgl3.below hb5
          clear hp4 ho5 hl5
          go_wp2
          first | (refine ⟨⟨k + 1, z, r, A', c', by omega, .inl (by omega), by go_num, rfl, hgl3', hbM, HK⟩, ?_⟩; (simp [intOf]; omega)) | (go_roundw; (case rel => first | exact ⟨k + 1, z, r, A', c', by omega, .inl (by omega), by go_num, rfl, hgl3', hbM, HK⟩ | ((try refine ⟨trivial, ?_⟩); (repeat apply Exists.intro); exact ⟨⟨k + 1, z, r, A', c', by omega, .inl (by omega), by go_num, rfl, hgl3', hbM, HK⟩, rfl⟩)); (case measure => (simp [intOf]; omega)))
      · have HK : Hid (r = salT (cutsB 10 s) (k + 1)) := Lib.hid (by rw [HX.out, ← HR.out, salT_bad (by rw [hcd]; decide)])
        rw [hcd] at hpx
        clear hcd
        go_wp2_with fail
        refine hpx.mono ?_
        rintro e w3 ⟨y, Hy, rfl, hb3⟩
        clear hpx
        have hgl3 := (hgl.below hb3).alloc (.cells #[.string y.fKind, .string y.fName, .string y.fText] 42)
        have hbN := hb.trans (hb3.mono hb.size)
        have hb4 : Below w1.heap.size w1 (w3.alloc (.cells #[.string y.fKind, .string y.fName, .string y.fText] 42)) := hbN.alloc hbN.size _
        go_wp2
        first | (refine ⟨⟨k + 1, z, r, A', c', by omega, .inl (by omega), by go_num, rfl, hgl3, hb4, HK⟩, ?_⟩; (simp [intOf]; omega)) | (go_roundw; (case rel => first | exact ⟨k + 1, z, r, A', c', by omega, .inl (by omega), by go_num, rfl, hgl3, hb4, HK⟩ | ((try refine ⟨trivial, ?_⟩); (repeat apply Exists.intro); exact ⟨⟨k + 1, z, r, A', c', by omega, .inl (by omega), by go_num, rfl, hgl3, hb4, HK⟩, rfl⟩)); (case measure => (simp [intOf]; omega)))
      · have HK : Hid (r = salT (cutsB 10 s) (k + 1)) := Lib.hid (by rw [HX.out, ← HR.out, salT_bad (by rw [hcd]; decide)])
        rw [hcd] at hpx
        clear hcd
        go_wp2_with fail
        refine hpx.mono ?_
        rintro e w3 ⟨y, Hy, rfl, hb3⟩
        clear hpx
        have hgl3 := (hgl.below hb3).alloc (.cells #[.string y.fKind, .string y.fName, .string y.fText] 42)
        have hbN := hb.trans (hb3.mono hb.size)
        have hb4 : Below w1.heap.size w1 (w3.alloc (.cells #[.string y.fKind, .string y.fName, .string y.fText] 42)) := hbN.alloc hbN.size _
        go_wp2
        first | (refine ⟨⟨k + 1, z, r, A', c', by omega, .inl (by omega), by go_num, rfl, hgl3, hb4, HK⟩, ?_⟩; (simp [intOf]; omega)) | (go_roundw; (case rel => first | exact ⟨k + 1, z, r, A', c', by omega, .inl (by omega), by go_num, rfl, hgl3, hb4, HK⟩ | ((try refine ⟨trivial, ?_⟩); (repeat apply Exists.intro); exact ⟨⟨k + 1, z, r, A', c', by omega, .inl (by omega), by go_num, rfl, hgl3, hb4, HK⟩, rfl⟩)); (case measure => (simp [intOf]; omega)))
    · have E : Hid (salL s = r) := Lib.hid (by
        unfold salL
        rw [HLEN.out, Nat.add_sub_cancel, HR.out]
        rcases hkm with h | h
        · rw [show k = m by omega]
        · subst h
          have : m = 0 ∨ m = 1 := by omega
          rcases this with h | h <;> rw [h, sal_one]
          rfl)
      clear hkm
      go_wp2
      go_ret
      exact RetL.mk hgl (by omega) E.out hbr

end Go.Proofs.YtnbeomceiealdaaDoor
