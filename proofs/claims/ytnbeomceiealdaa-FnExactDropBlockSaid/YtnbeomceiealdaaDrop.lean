/- A list of blocks without one. -/
import Derived.Test.YtnbeomceiealdaaRows
import Derived.Test.YtnbeomceiealdaaFind
import Derived.Test.YtnbeomceiealdaaSlBlock
namespace Go.Proofs.Ytnbeomceiealdaa
set_option linter.unusedVariables false
set_option linter.unusedSimpArgs false
set_option linter.unusedSectionVars false
open Go.RowKit

def dropBl (l : List DBlock) (kd nm : ByteArray) : List DBlock := if blocksB l then (if foundB l (keyOf kd nm) (posOf l (keyOf kd nm)) then l.take (posOf l (keyOf kd nm)) ++ l.drop (posOf l (keyOf kd nm) + 1) else []) else []

set_option maxHeartbeats 2000000 in
theorem S_DropBlock (A : Option Addr) (n c : Nat) (l : List DBlock) (kd nm : ByteArray) (w : World) (hr : Rd blockE w A n l) (hcap : n ≤ c) (hn : n ≤ 1048576) (hg : ∀ x ∈ l, x.good) (hsum : sumBlock l ≤ 1048576) (hz1' : kd.size ≤ 1048576) (hz2' : nm.size ≤ 1048576) :
    Calls Try.prog 27 #[.slice A n c, .string kd, .string nm] w (RetLC blockE 26 (dropBl l kd nm) (bnCode l kd nm) w) := by
  obtain ⟨i0, hi, hz0, hz1, hz2⟩ := info_parts Try.inf_Block
  have Hl := Lib.hid hr.1
  go_enter Try.func27, Try.ntmps27
  go_wp2_with fail
  refine (s_l29Ok A n c l _ hr (by unfold maxLen; omega) hg).mono ?_
  rintro e w1 ⟨rfl, hb1⟩
  rcases hB : blocksB l with _ | _
  · have E1 : Hid (dropBl l kd nm = []) := Lib.hid (by unfold dropBl; rw [hB]; rfl)
    have E2 : Hid (bnCode l kd nm = 1) := Lib.hid (by unfold bnCode; rw [hB]; rfl)
    clear hB
    go_wp2
    go_ret2
    exact RetLC.nil E1.out E2.out hb1
  · have HB := Lib.hid hB; clear hB
    go_wp2_with fail
    refine (s_l29Find A n c l kd nm _ (hr.below hb1) (by omega) (sorted_of_blocks HB.out)).mono ?_
    rintro e w2 ⟨rfl, hb⟩
    replace hb1 := hb1.trans (hb.mono hb1.size); clear hb
    rcases hF : foundB l (keyOf kd nm) (posOf l (keyOf kd nm)) with _ | _
    · have E1 : Hid (dropBl l kd nm = []) := Lib.hid (by unfold dropBl; rw [HB.out, hF]; rfl)
      have E2 : Hid (bnCode l kd nm = 3) := Lib.hid (by unfold bnCode; rw [HB.out, hF]; rfl)
      have E3 : findIx l kd nm = -1 := by unfold findIx; rw [hF]; rfl
      rw [E3]
      clear hF E3
      go_wp2
      go_ret2
      exact RetLC.nil E1.out E2.out hb1
    · obtain ⟨x, hx, _⟩ := found_get hF
      obtain ⟨p, hp⟩ : ∃ p, posOf l (keyOf kd nm) = p := ⟨_, rfl⟩
      have E1 : Hid (dropBl l kd nm = l.take p ++ l.drop (p + 1)) := Lib.hid (by unfold dropBl; rw [HB.out, hF, hp]; rfl)
      have E2 : Hid (bnCode l kd nm = 0) := Lib.hid (by unfold bnCode; rw [HB.out, hF]; rfl)
      have E3 : findIx l kd nm = p := by unfold findIx; rw [hF, hp]; rfl
      rw [E3]
      rw [hp] at hx
      clear hF E3 hp
      have hpn : p < n := by have := (List.getElem?_eq_some_iff.1 hx).1; have := Hl.out; omega
      obtain ⟨b, off, rfl, _⟩ := hr.2 (by omega)
      clear hx
      have hb2 : Below w.heap.size w (w2.alloc (.cells #[] 26)) := by (repeat (first | exact Below.refl _ _ | assumption | refine Below.drew ?_ | refine Below.alloc ?_ (by first | omega | (simp; done) | (simp; omega) | exact Below.size (by assumption)) _ | refine Below.setCell ?_ (by first | omega | (simp; done) | (simp; omega)) _))
      have hr2 := hr.below hb2
      have hr3 := hr2.take p (by omega)
      have hgl0 : GL blockE 26 w.heap.size (w2.alloc (.cells #[] 26)) (.slice (some ⟨w2.heap.size, 0, none⟩) 0 0) [] := GL.mk0 hb1.size
      have hlt : (l.take p).length = p := by rw [List.length_take, Hl.out]; omega
      have hpc : p ≤ c := by omega
      have hpc1 : p + 1 ≤ c := by omega
      obtain ⟨AD, hAD⟩ : ∃ AD : Option Addr, (if c = p + 1 then (some ⟨b, off, none⟩ : Option Addr) else some ⟨b, off + (p + 1) * 3, none⟩) = AD := ⟨_, rfl⟩
      have hr4 : 0 < n - (p + 1) → ∃ ad, AD = some ad ∧ ∀ W, Below w.heap.size w W → ∀ j u, ((l.drop (p + 1)).flatMap blockE.cells)[j]? = some u → W.cell? (ad.add j) = some u := fun h => by
        refine ⟨⟨b, off + (p + 1) * 3, none⟩, ?_, fun W hW j u hu => ?_⟩
        · rw [← hAD, if_neg (by omega)]
        · obtain ⟨ad, e, h'⟩ := (((hr.below hW).drop (p + 1) (by omega)).src (by omega))
          cases e
          exact h' j u hu
      have hADn : AD = none → n - (p + 1) = 0 := fun h => by rw [← hAD] at h; split at h <;> cases h
      have hdl : (l.drop (p + 1)).length = n - (p + 1) := by rw [List.length_drop, Hl.out]
      have hsum2 : p + (n - (p + 1)) = n - 1 := by omega
      go_wp2_with (first
        | (at_builtin; refine wpList_pushL blockE rfl (.tmp 19) (.tmp 22) 32 rfl w.heap.size 26 i0 _ 48 Try.underlying32 hi hz0 hz1 hz2 rfl (.slice (some ⟨w2.heap.size, 0, none⟩) 0 0) [] (l.take p) rfl hgl0 (some ⟨b, off, none⟩) p c rfl hlt (fun h => by cases h) hr3.src p (by simp) (l.take p) (by simp) (by omega) (by decide) w hb2 hb2.size ?_; intro A1 c1 w3 hgl1 _ hb3 hs3)
        | (at_builtin; refine wpList_pushL blockE rfl (.tmp 24) (.tmp 28) 32 rfl w.heap.size 26 i0 _ 48 Try.underlying32 hi hz0 hz1 hz2 rfl (.slice A1 p c1) (l.take p) (l.drop (p + 1)) rfl hgl1 AD (n - (p + 1)) (c - (p + 1)) rfl hdl hADn (fun h => by obtain ⟨ad, e, h'⟩ := hr4 h; exact ⟨ad, e, h' _ hb3⟩) (n - 1) (by rw [hlt]; exact hsum2) _ rfl (by omega) (by decide) w hb3 hs3 ?_; intro A2 c2 w4 hgl2 _ hb4 hs4))
      go_ret2
      exact RetLC.mk hgl2 (by omega) E1.out E2.out hb4

set_option maxHeartbeats 2000000 in
theorem I_DropBlock (A : Option Addr) (n c : Nat) (l : List DBlock) (kd nm : ByteArray) (w : World) (hr : Rd blockE w A n l) (hcap : n ≤ c) (hn : n ≤ 1048576) (hg : ∀ x ∈ l, x.good) (hsum : sumBlock l ≤ 1048576) (hz1' : kd.size ≤ 1048576) (hz2' : nm.size ≤ 1048576) :
    Calls Try.prog 28 #[.slice A n c, .string kd, .string nm] w (RetLC blockE 26 (dropBl l kd nm) (bnCode l kd nm) w) := by
  have Hl := Lib.hid hr.1
  go_enter Try.func28, Try.ntmps28
  go_wp2_with fail
  refine (i_ValidBlocks A n c l _ hr (by unfold maxLen; omega) hg).mono ?_
  rintro e w1 ⟨rfl, hb1⟩
  rcases hB : blocksB l with _ | _
  · have E1 : Hid (dropBl l kd nm = []) := Lib.hid (by unfold dropBl; rw [hB]; rfl)
    have E2 : Hid (bnCode l kd nm = 1) := Lib.hid (by unfold bnCode; rw [hB]; rfl)
    clear hB
    go_wp2
    go_ret2
    exact RetLC.nil E1.out E2.out hb1
  · have HB := Lib.hid hB; clear hB
    go_wp2_with fail
    refine (i_blockOf A n c l kd nm _ (hr.below hb1) (by omega) (sorted_of_blocks HB.out)).mono ?_
    rintro e w2 ⟨rfl, hb⟩
    replace hb1 := hb1.trans (hb.mono hb1.size); clear hb
    rcases hF : foundB l (keyOf kd nm) (posOf l (keyOf kd nm)) with _ | _
    · have E1 : Hid (dropBl l kd nm = []) := Lib.hid (by unfold dropBl; rw [HB.out, hF]; rfl)
      have E2 : Hid (bnCode l kd nm = 3) := Lib.hid (by unfold bnCode; rw [HB.out, hF]; rfl)
      clear hF
      go_wp2
      go_ret2
      exact RetLC.nil E1.out E2.out hb1
    · obtain ⟨x, hx, _⟩ := found_get hF
      obtain ⟨p, hp⟩ : ∃ p, posOf l (keyOf kd nm) = p := ⟨_, rfl⟩
      have E1 : Hid (dropBl l kd nm = l.take p ++ l.drop (p + 1)) := Lib.hid (by unfold dropBl; rw [HB.out, hF, hp]; rfl)
      have E2 : Hid (bnCode l kd nm = 0) := Lib.hid (by unfold bnCode; rw [HB.out, hF]; rfl)
      rw [hp] at hx ⊢
      clear hF hp
      have hpn : p < n := by have := (List.getElem?_eq_some_iff.1 hx).1; have := Hl.out; omega
      clear hx
      obtain ⟨m, rfl⟩ : ∃ m, n = m + 1 := ⟨n - 1, by omega⟩
      go_wp2_with fail
      refine (i_cloneBlock A (m + 1) c l _ (hr.below hb1) (by omega)).mono ?_
      rintro e w3 ⟨g, rfl, hgl, hb⟩
      replace hgl := hgl.mono hb1.size
      replace hb1 := hb1.trans (hb.mono hb1.size); clear hb
      go_wp2_with fail
      refine (i_DeleteBlock g m (m + 1) p _ l _ w hgl (by omega) (by omega) hb1).mono ?_
      rintro e w4 ⟨rfl, hgl2, hb2⟩
      go_wp2
      go_ret2
      exact RetLC.mk hgl2 (by omega) E1.out E2.out hb2

end Go.Proofs.Ytnbeomceiealdaa
