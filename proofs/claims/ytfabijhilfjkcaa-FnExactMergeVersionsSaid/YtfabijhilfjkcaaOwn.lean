/- Copies of histories, and a further version: both sides. Printed by a program of mine. -/
import Derived.Test.YtfabijhilfjkcaaRows
import Derived.Test.YtfabijhilfjkcaaGrowV
import Derived.Test.YtfabijhilfjkcaaSlSetting
import Derived.Test.YtfabijhilfjkcaaVerLaw
import Derived.Deep.Cut
namespace Go.Proofs.Ytfabijhilfjkcaa
set_option linter.unusedVariables false
set_option linter.unusedSimpArgs false
set_option linter.unusedSectionVars false
open Go.RowKit
set_option maxRecDepth 100000

def RetOwnV (l : List DVersion) (n : Nat) (w : World) (e : Ending) (w' : World) : Prop :=
  ∃ B q r, e = .returned (.slice B n q) ∧ GV w.heap.size w' B n q r l ∧ Below w.heap.size w w'

set_option maxHeartbeats 4000000 in
theorem s_l27Own (A : Option Addr) (n c : Nat) (l : List DVersion) (w0 : World) (hr : RdVersion w0 A n l) (hn : n ≤ 32) (hs : ∀ x ∈ l, x.fState.length ≤ 24) :
    Calls Try.prog 39 #[.slice A n c] w0 (RetOwnV l n w0) := by
  obtain ⟨i0, hi, hz0, hz1, hz2⟩ := info_parts Try.info_Version
  have HZ := Lib.hid (And.intro hz0 hz1); clear hz0 hz1
  obtain ⟨j0, gi, gz0, gz1, gz2⟩ := info_parts Try.inf_Setting
  have GZ := Lib.hid (And.intro gz0 gz1); clear gz0 gz1
  have Hl := Lib.hid hr.len
  have HS := Lib.hid hs; clear hs
  have HG0 : Hid (GV w0.heap.size (w0.alloc (.cells #[] 45)) (some ⟨w0.heap.size, 0, none⟩) 0 0 [] (l.take 0)) := Lib.hid (GV.nil (GL.mk0 (Nat.le_refl _)))
  have hb0 : Below w0.heap.size w0 (w0.alloc (.cells #[] 45)) := (Below.refl _ _).alloc (Nat.le_refl _) _
  go_enter Try.func39, Try.ntmps39
  go_wp2_with fail
  go_loopw [3, 4] (fun t i wr => ∃ (k : Nat) (B : Option Addr) (q : Nat) (r : List RawV), k ≤ n ∧ i = .int .i64 k ∧ t = .slice B k q ∧ Hid (GV w0.heap.size wr B k q r (l.take k)) ∧ Below w0.heap.size w0 wr) (fun _ i _ => n - (intOf i).toNat)
  case atStart => exact ⟨0, _, 0, [], Nat.zero_le _, rfl, rfl, HG0, hb0⟩
  case round =>
    clear HG0 hb0
    obtain ⟨k, B, q, r, hk, rfl, rfl, HGV, hb⟩ := hrel
    have hbs := hb.size
    by_cases hlt : k < n
    · obtain ⟨b, off, x, A', n', c', rfl, hx, hcs, hru⟩ := hr.get hlt
      have hcr := range_below (B := 0) hcs hb
      have hc0 := hcr 0 _ rfl
      have hc1 := hcr 1 _ rfl
      have hc2 := hcr 2 _ rfl
      have hc3 := hcr 3 _ rfl
      simp only [Nat.add_zero] at hc0 hc1 hc2 hc3
      have hm24 : n' ≤ 24 := by rw [← hru.1]; exact HS.out x (mem_of_get hx)
      have HT : Hid (l.take (k + 1) = l.take k ++ [x]) := Lib.hid (take_of_get hx)
      have HLX := Lib.hid hru.1
      clear hcr hcs hx
      have R := range_new wr #[.int .i64 x.fNumber, .int .i64 x.fParent, .string x.fMemo, .slice A' n' c'] 45
      have ba : Below wr.heap.size wr (wr.alloc (.cells #[.int .i64 x.fNumber, .int .i64 x.fParent, .string x.fMemo, .slice A' n' c'] 45)) := (Below.refl _ _).alloc (Nat.le_refl _) _
      have hfr := fun j => new_free wr #[.int .i64 x.fNumber, .int .i64 x.fParent, .string x.fMemo, .slice A' n' c'] 45 j
      obtain ⟨W1, hW1⟩ : ∃ W, wr.alloc (.cells #[.int .i64 x.fNumber, .int .i64 x.fParent, .string x.fMemo, .slice A' n' c'] 45) = W := ⟨_, rfl⟩
      have HS1 : Hid (W1.heap.size = wr.heap.size + 1) := Lib.hid (by rw [← hW1]; simp)
      rw [hW1] at R ba hfr
      have hg0 : GL settingE 56 W1.heap.size (W1.alloc (.cells #[] 56)) (.slice (some ⟨W1.heap.size, 0, none⟩) 0 0) [] := GL.mk0 (Nat.le_refl _)
      have hb2 : Below W1.heap.size W1 (W1.alloc (.cells #[] 56)) := (Below.refl _ _).alloc (Nat.le_refl _) _
      obtain ⟨W2, hW2⟩ : ∃ W, W1.alloc (.cells #[] 56) = W := ⟨_, rfl⟩
      rw [hW2] at hg0 hb2
      have u0 := R 0 _ rfl
      have u1 := R 1 _ rfl
      have u2 := R 2 _ rfl
      have u3 := R 3 _ rfl
      simp only [Nat.zero_add] at u0 u1 u2 u3
      have v3 := cell_later hb2 u3
      have hr2 := hru.below (hb.trans ((ba.trans (hb2.mono ba.size)).mono hbs))
      obtain ⟨bx, hbx⟩ : ∃ g, wr.heap.size = g := ⟨_, rfl⟩
      rw [hbx] at u0 u1 u2 u3 v3 hfr
      have HFR := Lib.hid hfr
      clear R hfr

      go_wp2_with (first | (at_builtin; refine wpList_pushL settingE rfl _ _ 38 rfl W1.heap.size 56 j0 _ 24 Try.underlying38 gi GZ.out.1 GZ.out.2 gz2 rfl (.slice (some ⟨W1.heap.size, 0, none⟩) 0 0) [] x.fState rfl hg0 A' n' c' rfl HLX.out (Rd.noneLen hr2) (Rd.src hr2) n' (by simp) x.fState (by simp) (by omega) (by decide) W1 hb2 hb2.size ?_; intro B1 d1 w3 hgl1 _ hb3 hs3; have k3 := cell_later hb3 u3; have f3 := free_later (HFR.out 3) (by show bx < _; have := HS1.out; omega) hb3; have k0 := cell_later hb3 u0; have k1 := cell_later hb3 u1; have k2 := cell_later hb3 u2; have hw3 := ba.trans (hb3.mono ba.size); have z3 := hb3.size; have ht : Touch (fun j => j = bx) w3 (w3.setCell ⟨bx, 3, none⟩ (.slice B1 n' d1)) := Touch.setCell (F := fun j => j = bx) (p := ⟨bx, 3, none⟩) rfl _; have m0 := (World.cell?_setCell_other (w := w3) (a := ⟨bx, 3, none⟩) (b := ⟨bx, 0, none⟩) (v := .slice B1 n' d1) (fun e => by simp at e)).trans k0; have m1 := (World.cell?_setCell_other (w := w3) (a := ⟨bx, 3, none⟩) (b := ⟨bx, 1, none⟩) (v := .slice B1 n' d1) (fun e => by simp at e)).trans k1; have m2 := (World.cell?_setCell_other (w := w3) (a := ⟨bx, 3, none⟩) (b := ⟨bx, 2, none⟩) (v := .slice B1 n' d1) (fun e => by simp at e)).trans k2; have m3 := World.cell?_setCell_same (w := w3) (a := ⟨bx, 3, none⟩) (v := .slice B1 n' d1) k3; have hgv4 := HGV.out.touchB hw3 ht (fun j hj => by omega); have hb4 := Below.touch (hb.trans (hw3.mono hbs)) ht (fun j hj => by omega) (Nat.le_trans hbs hw3.size); have hbs4 := hb4.size; have hrow := (hgl1.touch ht fun j hj e => by have := (hgl1.lt j hj).1; have := HS1.out; omega); have hlow : ∀ j, Value.ownBlock (.slice B1 n' d1) = some j → wr.heap.size ≤ j := fun j hj => (by have := (hgl1.lt j hj).1; have := HS1.out; omega); have hgo := hgv4.own) | (at_builtin; refine wpList_pushO rawVE rfl _ _ 24 rfl w0.heap.size 45 i0 _ 56 Try.underlying24 hi HZ.out.1 HZ.out.2 hz2 rfl B k q r ⟨x.fNumber, x.fParent, x.fMemo, B1, n', d1⟩ rfl (hgo.alloc _) w3.heap.size rfl (range_new' _ _ _ (by simp)) (by omega) (by decide) (Nat.le_trans hbs4 (by simp)) ?_; intro BB7 cc7 w7 hgl7 ht7 hn7; have hb7 := Below.touch (hb4.alloc hbs4 (.cells #[.int .i64 x.fNumber, .int .i64 x.fParent, .string x.fMemo, .slice B1 n' d1] 45)) ht7 (fun k hk => (hgo.lt k hk).1) (Nat.le_trans hbs4 (by simp))))
      clear k0 k1 k2 k3 f3 u0 u1 u2 u3 hw3 ht hgl1 hb3
      have HG7 : Hid (GV w0.heap.size w7 BB7 (k + 1) cc7 (r ++ [⟨x.fNumber, x.fParent, x.fMemo, B1, n', d1⟩]) (l.take (k + 1))) := Lib.hid (by
        rw [HT.out]
        have hal : Below (w3.setCell ⟨bx, 3, none⟩ (.slice B1 n' d1)).heap.size (w3.setCell ⟨bx, 3, none⟩ (.slice B1 n' d1)) ((w3.setCell ⟨bx, 3, none⟩ (.slice B1 n' d1)).alloc (.cells #[.int .i64 x.fNumber, .int .i64 x.fParent, .string x.fMemo, .slice B1 n' d1] 45)) := (Below.refl _ _).alloc (Nat.le_refl _) _
        exact GV.push HGV.out (hgv4.below hal) ⟨rfl, rfl, rfl⟩ ((hrow.mono (by have := HS1.out; omega)).below hal) hlow hgl7 ht7 hn7)
      clear hgv4 hrow hlow hgo hgl7 ht7 hn7 m0 m1 m2 m3
      go_wp2
      first | (refine ⟨⟨k + 1, BB7, cc7, _, by omega, by go_num, rfl, HG7, hb7⟩, ?_⟩; (simp [intOf]; omega)) | (go_roundw; (case rel => first | exact ⟨k + 1, BB7, cc7, _, by omega, by go_num, rfl, HG7, hb7⟩ | ((try refine ⟨trivial, ?_⟩); (repeat apply Exists.intro); exact ⟨⟨k + 1, BB7, cc7, _, by omega, by go_num, rfl, HG7, hb7⟩, rfl⟩)); (case measure => (simp [intOf]; omega)))
    · obtain rfl : k = n := by omega
      have E1 : Hid (l.take k = l) := Lib.hid (List.take_of_length_le (Nat.le_of_eq Hl.out))
      have HF : Hid (GV w0.heap.size wr B k q r l) := Lib.hid (by have h := HGV.out; rw [E1.out] at h; exact h)
      clear HGV
      go_wp2
      go_ret
      exact ⟨B, q, r, rfl, HF.out, hb⟩

set_option maxHeartbeats 4000000 in
theorem i_copyHistory (A : Option Addr) (n c : Nat) (l : List DVersion) (w0 : World) (hr : RdVersion w0 A n l) (hn : n ≤ 32) (hs : ∀ x ∈ l, x.fState.length ≤ 24) :
    Calls Try.prog 50 #[.slice A n c] w0 (RetOwnV l n w0) := by
  obtain ⟨i0, hi, hz0, hz1, hz2⟩ := info_parts Try.info_Version
  have HZ := Lib.hid (And.intro hz0 hz1); clear hz0 hz1
  obtain ⟨j0, gi, gz0, gz1, gz2⟩ := info_parts Try.inf_Setting
  have GZ := Lib.hid (And.intro gz0 gz1); clear gz0 gz1
  have Hl := Lib.hid hr.len
  have HS := Lib.hid hs; clear hs
  obtain ⟨wm, hmk, ho1, hg1⟩ := run_make_own (P := Try.prog) w0 w0.heap.size 24 45 i0 _ 4 Try.underlying24 hi HZ.out.1 HZ.out.2 .i64 .i64 (n + 1) (by rw [hz2]; omega) (by unfold maxLen; omega) (Nat.le_refl _)
  have hb0 : Below w0.heap.size w0 wm := (Below.refl _ _).grown hg1 (Nat.le_refl _) (fun k hk => by cases hk)
  have hgl0 : GL rawVE 45 w0.heap.size wm (.slice (some ⟨w0.heap.size, 0, none⟩) 0 (n + 1)) [] := ho1
  have HG0 : Hid (GV w0.heap.size wm (some ⟨w0.heap.size, 0, none⟩) 0 (n + 1) [] (l.take 0)) := Lib.hid (GV.nil hgl0)
  rw [show ((n + 1 : Nat) : Int) = (n : Int) + 1 by omega] at hmk
  clear ho1 hg1 hgl0
  go_enter Try.func50, Try.ntmps50
  go_wp2_with fail
  clear hmk
  go_loopw [3, 12] (fun t i wr => ∃ (k : Nat) (B : Option Addr) (q : Nat) (r : List RawV), k ≤ n ∧ i = .int .i64 k ∧ t = .slice B k q ∧ Hid (GV w0.heap.size wr B k q r (l.take k)) ∧ Below w0.heap.size w0 wr) (fun _ i _ => n - (intOf i).toNat)
  case atStart => exact ⟨0, _, n + 1, [], Nat.zero_le _, rfl, rfl, HG0, hb0⟩
  case round =>
    clear HG0 hb0
    obtain ⟨k, B, q, r, hk, rfl, rfl, HGV, hb⟩ := hrel
    have hbs := hb.size
    by_cases hlt : k < n
    · obtain ⟨b, off, x, A', n', c', rfl, hx, hcs, hru⟩ := hr.get hlt
      have hcr := range_below (B := 0) hcs hb
      have hc0 := hcr 0 _ rfl
      have hc1 := hcr 1 _ rfl
      have hc2 := hcr 2 _ rfl
      have hc3 := hcr 3 _ rfl
      simp only [Nat.add_zero] at hc0 hc1 hc2 hc3
      have hm24 : n' ≤ 24 := by rw [← hru.1]; exact HS.out x (mem_of_get hx)
      have HT : Hid (l.take (k + 1) = l.take k ++ [x]) := Lib.hid (take_of_get hx)
      have HLX := Lib.hid hru.1
      clear hcr hcs hx
      have R := range_new wr #[.int .i64 x.fNumber, .int .i64 x.fParent, .string x.fMemo, .slice A' n' c'] 45
      have ba : Below wr.heap.size wr (wr.alloc (.cells #[.int .i64 x.fNumber, .int .i64 x.fParent, .string x.fMemo, .slice A' n' c'] 45)) := (Below.refl _ _).alloc (Nat.le_refl _) _
      have hfr := fun j => new_free wr #[.int .i64 x.fNumber, .int .i64 x.fParent, .string x.fMemo, .slice A' n' c'] 45 j
      obtain ⟨W1, hW1⟩ : ∃ W, wr.alloc (.cells #[.int .i64 x.fNumber, .int .i64 x.fParent, .string x.fMemo, .slice A' n' c'] 45) = W := ⟨_, rfl⟩
      have HS1 : Hid (W1.heap.size = wr.heap.size + 1) := Lib.hid (by rw [← hW1]; simp)
      rw [hW1] at R ba hfr
      have u0 := R 0 _ rfl
      have u1 := R 1 _ rfl
      have u2 := R 2 _ rfl
      have u3 := R 3 _ rfl
      simp only [Nat.zero_add] at u0 u1 u2 u3
      have hr2 := hru.below (hb.trans (ba.mono hbs))
      obtain ⟨bx, hbx⟩ : ∃ g, wr.heap.size = g := ⟨_, rfl⟩
      rw [hbx] at u0 u1 u2 u3 hfr
      have HFR := Lib.hid hfr
      clear R hfr
      go_wp2_with fail
      try rw [hW1]
      clear hW1 hc0 hc1 hc2 hc3
      refine (i_cloneSetting A' n' c' x.fState W1 hr2 (by omega)).mono ?_
      rintro e w3 ⟨g1, rfl, hgl1, hb3⟩
      have k3 := cell_later hb3 u3
      have f3 := free_later (HFR.out 3) (by show bx < _; have := HS1.out; omega) hb3
      have k0 := cell_later hb3 u0
      have k1 := cell_later hb3 u1
      have k2 := cell_later hb3 u2
      have hw3 := ba.trans (hb3.mono ba.size)
      have z3 := hb3.size
      have ht : Touch (fun j => j = bx) w3 (w3.setCell ⟨bx, 3, none⟩ (.slice (some ⟨g1, 0, none⟩) n' n')) := Touch.setCell (F := fun j => j = bx) (p := ⟨bx, 3, none⟩) rfl _
      have m0 := (World.cell?_setCell_other (w := w3) (a := ⟨bx, 3, none⟩) (b := ⟨bx, 0, none⟩) (v := .slice (some ⟨g1, 0, none⟩) n' n') (fun e => by simp at e)).trans k0
      have m1 := (World.cell?_setCell_other (w := w3) (a := ⟨bx, 3, none⟩) (b := ⟨bx, 1, none⟩) (v := .slice (some ⟨g1, 0, none⟩) n' n') (fun e => by simp at e)).trans k1
      have m2 := (World.cell?_setCell_other (w := w3) (a := ⟨bx, 3, none⟩) (b := ⟨bx, 2, none⟩) (v := .slice (some ⟨g1, 0, none⟩) n' n') (fun e => by simp at e)).trans k2
      have m3 := World.cell?_setCell_same (w := w3) (a := ⟨bx, 3, none⟩) (v := .slice (some ⟨g1, 0, none⟩) n' n') k3
      have hgv4 := HGV.out.touchB hw3 ht (fun j hj => by omega)
      have hb4 := Below.touch (hb.trans (hw3.mono hbs)) ht (fun j hj => by omega) (Nat.le_trans hbs hw3.size)
      have hbs4 := hb4.size
      have hrow := (hgl1.touch ht fun j hj e => by have := (hgl1.lt j hj).1; have := HS1.out; omega)
      have hlow : ∀ j, Value.ownBlock (.slice (some ⟨g1, 0, none⟩) n' n') = some j → wr.heap.size ≤ j := fun j hj => (by have := (hgl1.lt j hj).1; have := HS1.out; omega)
      have hgo := hgv4.own
      go_wp2_with (at_builtin; refine wpList_pushO rawVE rfl _ _ 24 rfl w0.heap.size 45 i0 _ 56 Try.underlying24 hi HZ.out.1 HZ.out.2 hz2 rfl B k q r ⟨x.fNumber, x.fParent, x.fMemo, (some ⟨g1, 0, none⟩), n', n'⟩ rfl (hgo.alloc _) w3.heap.size rfl (range_new' _ _ _ (by simp)) (by omega) (by decide) (Nat.le_trans hbs4 (by simp)) ?_; intro BB7 cc7 w7 hgl7 ht7 hn7; have hb7 := Below.touch (hb4.alloc hbs4 (.cells #[.int .i64 x.fNumber, .int .i64 x.fParent, .string x.fMemo, .slice (some ⟨g1, 0, none⟩) n' n'] 45)) ht7 (fun k hk => (hgo.lt k hk).1) (Nat.le_trans hbs4 (by simp)))
      clear k0 k1 k2 k3 f3 u0 u1 u2 u3 hw3 ht hgl1 hb3
      have HG7 : Hid (GV w0.heap.size w7 BB7 (k + 1) cc7 (r ++ [⟨x.fNumber, x.fParent, x.fMemo, (some ⟨g1, 0, none⟩), n', n'⟩]) (l.take (k + 1))) := Lib.hid (by
        rw [HT.out]
        have hal : Below (w3.setCell ⟨bx, 3, none⟩ (.slice (some ⟨g1, 0, none⟩) n' n')).heap.size (w3.setCell ⟨bx, 3, none⟩ (.slice (some ⟨g1, 0, none⟩) n' n')) ((w3.setCell ⟨bx, 3, none⟩ (.slice (some ⟨g1, 0, none⟩) n' n')).alloc (.cells #[.int .i64 x.fNumber, .int .i64 x.fParent, .string x.fMemo, .slice (some ⟨g1, 0, none⟩) n' n'] 45)) := (Below.refl _ _).alloc (Nat.le_refl _) _
        exact GV.push HGV.out (hgv4.below hal) ⟨rfl, rfl, rfl⟩ ((hrow.mono (by have := HS1.out; omega)).below hal) hlow hgl7 ht7 hn7)
      clear hgv4 hrow hlow hgo hgl7 ht7 hn7 m0 m1 m2 m3
      go_wp2
      first | (refine ⟨⟨k + 1, BB7, cc7, _, by omega, by go_num, rfl, HG7, hb7⟩, ?_⟩; (simp [intOf]; omega)) | (go_roundw; (case rel => first | exact ⟨k + 1, BB7, cc7, _, by omega, by go_num, rfl, HG7, hb7⟩ | ((try refine ⟨trivial, ?_⟩); (repeat apply Exists.intro); exact ⟨⟨k + 1, BB7, cc7, _, by omega, by go_num, rfl, HG7, hb7⟩, rfl⟩)); (case measure => (simp [intOf]; omega)))
    · obtain rfl : k = n := by omega
      have E1 : Hid (l.take k = l) := Lib.hid (List.take_of_length_le (Nat.le_of_eq Hl.out))
      have HF : Hid (GV w0.heap.size wr B k q r l) := Lib.hid (by have h := HGV.out; rw [E1.out] at h; exact h)
      clear HGV
      go_wp2
      go_ret
      exact ⟨B, q, r, rfl, HF.out, hb⟩

end Go.Proofs.Ytfabijhilfjkcaa
