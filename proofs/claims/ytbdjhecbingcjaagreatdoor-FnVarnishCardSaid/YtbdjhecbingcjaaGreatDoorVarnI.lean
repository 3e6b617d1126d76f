/- Coats over colours, orders, gaps: both sides. Printed by a program of mine. -/
import Derived.Test.YtbdjhecbingcjaaGreatDoorRows
import Derived.Test.YtbdjhecbingcjaaGreatDoorVarnA
import Derived.Test.YtbdjhecbingcjaaGreatDoorCoatS
import Derived.Test.YtbdjhecbingcjaaGreatDoorRCoat
import Derived.StillTailTactics
import Derived.Deep.RegionHeld3
import Derived.Test.YtbdjhecbingcjaaGreatDoorStepO
namespace Go.Proofs.YtbdjhecbingcjaaGreatDoor
set_option linter.unusedVariables false
set_option linter.unusedSimpArgs false
set_option linter.unusedSectionVars false
open Go.RowKit
set_option maxRecDepth 100000

theorem Tryz.info_v64 : (Tryz.prog.info? 2).map (fun i => (i.zero, i.size, i.bytes)) = some (some (.int .i64 0), 1, 8) := by kernel_rfl
/-- what a function that returns a colour leaves -/
def RetCol (c : List Int) (w : World) (e : Ending) (w' : World) : Prop := ∃ B q, e = .returned (.slice B 3 q) ∧ Rd intE w' B 3 c ∧ Below w.heap.size w w'
def RetColC (c : List Int) (w : World) (e : Ending) (w' : World) : Prop := ∃ B q, e = .returned (.tuple #[.slice B 3 q, .int .i64 0]) ∧ Rd intE w' B 3 c ∧ Below w.heap.size w w'

set_option maxHeartbeats 2000000 in
theorem i_over (x : DCoat) (A1 : Option Addr) (n1 c1 : Nat) (A : Option Addr) (n c : Nat) (g : List Int) (w : World) (hx : OkC x) (hr1 : Rd intE w A1 n1 x.fColour) (hr : Rd intE w A n g) (hg : Col g) :
    Calls Tryz.prog 27 #[.agg #[.string x.fId, .int .i64 x.fDays, .int .i64 x.fCover, .slice A1 n1 c1], .slice A n c] w (RetCol (overL x g) w) := by
  obtain ⟨i0, hi, hz0, hz1, hz2⟩ := info_parts Tryz.info_v64
  have HZ := Lib.hid (And.intro hz0 hz1); clear hz0 hz1
  obtain rfl : n = 3 := by rw [← hr.1]; exact hg.1
  obtain rfl : n1 = 3 := by rw [← hr1.1]; exact hx.col.1
  have HX := Lib.hid hx; have HG := Lib.hid hg
  clear hx hg
  have R := range_new w #[.string x.fId, .int .i64 x.fDays, .int .i64 x.fCover, .slice A1 3 c1] 36
  have bw : Below w.heap.size w (w.alloc (.cells #[.string x.fId, .int .i64 x.fDays, .int .i64 x.fCover, .slice A1 3 c1] 36)) := (Below.refl _ _).alloc (Nat.le_refl _) _
  obtain ⟨W0, hW0⟩ : ∃ W, w.alloc (.cells #[.string x.fId, .int .i64 x.fDays, .int .i64 x.fCover, .slice A1 3 c1] 36) = W := ⟨_, rfl⟩
  rw [hW0] at R bw
  obtain ⟨bx, hbx⟩ : ∃ b, w.heap.size = b := ⟨_, rfl⟩
  rw [hbx] at R
  have HR := Lib.hid R
  have hsw := bw.size
  have HG0 : Hid (GL intE 2 W0.heap.size (W0.alloc (.cells #[] 2)) (.slice (some ⟨W0.heap.size, 0, none⟩) 0 0) ((overL x g).take 0)) := Lib.hid (GL.mk0 (Nat.le_refl _))
  have hb0 : Below W0.heap.size W0 (W0.alloc (.cells #[] 2)) := (Below.refl _ _).alloc (Nat.le_refl _) _
  go_enter Tryz.func27, Tryz.ntmps27
  go_wp2_with fail
  try rw [hW0]
  try rw [hbx]
  clear hW0
  go_loopw [5, 11] (fun t i wr => ∃ (k : Nat) (B : Option Addr) (q : Nat), k ≤ 3 ∧ i = .int .i64 k ∧ t = .slice B k q ∧ Hid (GL intE 2 W0.heap.size wr (.slice B k q) ((overL x g).take k)) ∧ Below W0.heap.size W0 wr) (fun _ i _ => 3 - (intOf i).toNat)
  case atStart => exact ⟨0, _, 0, by omega, rfl, rfl, HG0, hb0⟩
  case round =>
    clear HG0 hb0
    obtain ⟨k, B, q, hk, rfl, rfl, HGL, hb⟩ := hrel
    have hbs := hb.size
    by_cases hlt : k < 3
    · obtain ⟨b, off, u, rfl, hu, hcs⟩ := (hr.below bw).get hlt
      obtain ⟨b1, off1, v, rfl, hv, hcs1⟩ := (hr1.below bw).get hlt
      have H0 := hcs 0 _ rfl
      have H1 := hcs1 0 _ rfl
      simp only [intE, Nat.mul_one, Nat.add_zero] at H0 H1
      have X2 := HR.out 2 _ rfl
      have X3 := HR.out 3 _ rfl
      try simp only [Nat.zero_add] at X2 X3
      have h0 := cell_later hb H0
      have h1 := cell_later hb H1
      have x2 := cell_later hb X2
      have x3 := cell_later hb X3
      have hu1 := HG.out.of hu
      have hv1 := HX.out.col.of hv
      have hP := (part_big HX.out hu1 hv1).1
      have hQ := (part_big HX.out hu1 hv1).2
      have hcov := HX.out.cover
      have hN := overL_take (x := x) hu hv
      obtain ⟨y, hy⟩ : ∃ y, overN x u v = y := ⟨_, rfl⟩
      rw [hy] at hN
      have HN := Lib.hid hN
      have HY : Hid (dR (u * (1000 - x.fCover) + v * x.fCover) 1000 = y) := Lib.hid hy
      clear hcs hcs1 hu hv hN hy
      have e1 : IntKind.i64.wrap (1000 - x.fCover) = 1000 - x.fCover := by rw [IntKind.wrap_i64]; omega
      have e2 : IntKind.i64.wrap (u * (1000 - x.fCover)) = u * (1000 - x.fCover) := by rw [IntKind.wrap_i64]; omega
      have e3 : IntKind.i64.wrap (v * x.fCover) = v * x.fCover := by rw [IntKind.wrap_i64]; omega
      have e4 : IntKind.i64.wrap (u * (1000 - x.fCover) + v * x.fCover) = u * (1000 - x.fCover) + v * x.fCover := by rw [IntKind.wrap_i64]; omega
      have HC : Hid (∀ W, Calls Tryz.prog 32 #[.int .i64 (u * (1000 - x.fCover) + v * x.fCover), .int .i64 1000] W fun e w' => e = .returned (.int .i64 y) ∧ W = w') := Lib.hid fun W => HY.out ▸ i_divRound _ 1000 W (by omega) (by omega) (by omega) (by omega)
      have hbN : ∀ ob, Below wr.heap.size wr (wr.drew.alloc ob) := fun ob => ((Below.refl _ _).drew).alloc (Nat.le_refl _) ob
      have hbM : ∀ ob, Below wr.heap.size wr (wr.alloc ob).drew := fun ob => ((Below.refl _ _).alloc (Nat.le_refl _) ob).drew
      have hgN : ∀ ob, GL intE 2 W0.heap.size (wr.drew.alloc ob) (.slice B k q) ((overL x g).take k) := fun ob => HGL.out.below (hbN ob)
      have hgM : ∀ ob, GL intE 2 W0.heap.size (wr.alloc ob).drew (.slice B k q) ((overL x g).take k) := fun ob => HGL.out.below (hbM ob)
      have hrN : (wr.drew.alloc (.cells #[.int .i64 y] 2)).rangeAt wr.heap.size 0 [.int .i64 y] := range_new wr.drew #[.int .i64 y] 2
      have hrM : (wr.alloc (.cells #[.int .i64 y] 2)).drew.rangeAt wr.heap.size 0 [.int .i64 y] := range_new wr #[.int .i64 y] 2
      have hlo : ∀ j, Value.ownBlock (.slice B k q) = some j → W0.heap.size ≤ j := fun j hj => (HGL.out.lt j hj).1
      have hsz : ∀ ob, W0.heap.size ≤ (wr.drew.alloc ob).heap.size := fun ob => Nat.le_trans hbs (hbN ob).size
      have hsz2 : ∀ ob, W0.heap.size ≤ (wr.alloc ob).drew.heap.size := fun ob => Nat.le_trans hbs (hbM ob).size
      go_wp2_with fail
      go_region_held3 (fun w' => w'.cell? ⟨bx, 2, none⟩ = some (.int .i64 x.fCover) ∧ w'.cell? ⟨bx, 3, none⟩ = some (.slice (some ⟨b1, off1, none⟩) 3 c1) ∧ w'.cell? ⟨b1, off1 + k, none⟩ = some (.int .i64 v) ∧ w'.cell? ⟨b, off + k, none⟩ = some (.int .i64 u))
        (first | exact ⟨x2, x3, h1, h0⟩ | (go_split_ands; exact ⟨by assumption, by assumption, by assumption, by assumption⟩)
               | exact ⟨cell_later (hbN _) x2, cell_later (hbN _) x3, cell_later (hbN _) h1, cell_later (hbN _) h0⟩ | exact ⟨cell_later (hbM _) x2, cell_later (hbM _) x3, cell_later (hbM _) h1, cell_later (hbM _) h0⟩ | exact ⟨cell_later hb2 X2, cell_later hb2 X3, cell_later hb2 H1, cell_later hb2 H0⟩)
        (first | (go_at_call 32; refine (HC.out _).mono ?_; rintro e w1 ⟨rfl, rfl⟩)
               | (refine step_pushO intE rfl _ _ 26 rfl W0.heap.size 2 i0 _ 8 Tryz.underlying26 hi HZ.out.1 HZ.out.2 hz2 rfl B k q ((overL x g).take k) y rfl (hgN _) wr.heap.size rfl hrN (by omega) (by decide) (hsz _) ?_; intro BB2 cc2 w2 hgl2 ht2 hn2; have hb2 := Below.touch (hb.trans ((hbN (.cells #[.int .i64 y] 2)).mono hbs)) ht2 hlo (hsz _))
               | (refine step_pushO intE rfl _ _ 26 rfl W0.heap.size 2 i0 _ 8 Tryz.underlying26 hi HZ.out.1 HZ.out.2 hz2 rfl B k q ((overL x g).take k) y rfl (hgM _) wr.heap.size rfl hrM (by omega) (by decide) (hsz2 _) ?_; intro BB2 cc2 w2 hgl2 ht2 hn2; have hb2 := Below.touch (hb.trans ((hbM (.cells #[.int .i64 y] 2)).mono hbs)) ht2 hlo (hsz2 _)))
      all_goals (
        have HG2 : Hid (GL intE 2 W0.heap.size w2 (.slice BB2 (k + 1) cc2) ((overL x g).take (k + 1))) := Lib.hid (by rw [HN.out]; exact hgl2)
        clear hgl2 ht2 hn2 h0 h1 x2 x3 H0 H1 X2 X3 hP hQ hbN hbM hgN hgM hrN hrM hlo hsz hsz2
        go_wp2
        first | (refine ⟨⟨k + 1, BB2, cc2, by omega, by go_num, rfl, HG2, hb2⟩, ?_⟩; (simp [intOf]; omega)) | (go_roundw; (case rel => first | exact ⟨k + 1, BB2, cc2, by omega, by go_num, rfl, HG2, hb2⟩ | ((try refine ⟨trivial, ?_⟩); (repeat apply Exists.intro); exact ⟨⟨k + 1, BB2, cc2, by omega, by go_num, rfl, HG2, hb2⟩, rfl⟩)); (case measure => (simp [intOf]; omega))))
    · obtain rfl : k = 3 := by omega
      have hgl := HGL.out
      rw [List.take_of_length_le (by rw [overL_len HX.out HG.out]; exact Nat.le_refl _)] at hgl
      have HF := Lib.hid hgl.rd
      have hbF := bw.trans (hb.mono hsw)
      clear HGL hgl
      go_wp2
      go_ret
      exact ⟨B, q, rfl, HF.out, hbF⟩

set_option maxHeartbeats 2000000 in
theorem s_l13Over (bp op : Nat) (x : DCoat) (A1 : Option Addr) (n1 c1 : Nat) (A : Option Addr) (n c : Nat) (g : List Int) (w : World) (hc : w.rangeAt bp op [.string x.fId, .int .i64 x.fDays, .int .i64 x.fCover, .slice A1 n1 c1]) (hx : OkC x) (hr1 : Rd intE w A1 n1 x.fColour) (hr : Rd intE w A n g) (hg : Col g) :
    Calls Tryz.prog 42 #[.pointer (some ⟨bp, op, none⟩), .slice A n c] w (RetCol (overL x g) w) := by
  obtain ⟨i0, hi, hz0, hz1, hz2⟩ := info_parts Tryz.info_v64
  have HZ := Lib.hid (And.intro hz0 hz1); clear hz0 hz1
  obtain rfl : n = 3 := by rw [← hr.1]; exact hg.1
  obtain rfl : n1 = 3 := by rw [← hr1.1]; exact hx.col.1
  have HX := Lib.hid hx; have HG := Lib.hid hg
  clear hx hg
  have bw := Below.refl w.heap.size w
  obtain ⟨W0, hW0⟩ : ∃ W, w = W := ⟨_, rfl⟩
  have HR := Lib.hid hc
  rw [hW0] at bw HR
  have hsw := bw.size
  have HG0 : Hid (GL intE 2 W0.heap.size (W0.alloc (.cells #[] 2)) (.slice (some ⟨W0.heap.size, 0, none⟩) 0 0) ((overL x g).take 0)) := Lib.hid (GL.mk0 (Nat.le_refl _))
  have hb0 : Below W0.heap.size W0 (W0.alloc (.cells #[] 2)) := (Below.refl _ _).alloc (Nat.le_refl _) _
  subst hW0
  go_enter Tryz.func42, Tryz.ntmps42
  go_wp2_with fail
  go_loopw [5, 6] (fun t i wr => ∃ (k : Nat) (B : Option Addr) (q : Nat), k ≤ 3 ∧ i = .int .i64 k ∧ t = .slice B k q ∧ Hid (GL intE 2 w.heap.size wr (.slice B k q) ((overL x g).take k)) ∧ Below w.heap.size w wr) (fun _ i _ => 3 - (intOf i).toNat)
  case atStart => exact ⟨0, _, 0, by omega, rfl, rfl, HG0, hb0⟩
  case round =>
    clear HG0 hb0
    obtain ⟨k, B, q, hk, rfl, rfl, HGL, hb⟩ := hrel
    have hbs := hb.size
    by_cases hlt : k < 3
    · obtain ⟨b, off, u, rfl, hu, hcs⟩ := (hr.below bw).get hlt
      obtain ⟨b1, off1, v, rfl, hv, hcs1⟩ := (hr1.below bw).get hlt
      have H0 := hcs 0 _ rfl
      have H1 := hcs1 0 _ rfl
      simp only [intE, Nat.mul_one, Nat.add_zero] at H0 H1
      have X2 := HR.out 2 _ rfl
      have X3 := HR.out 3 _ rfl
      try simp only [Nat.zero_add] at X2 X3
      have h0 := cell_later hb H0
      have h1 := cell_later hb H1
      have x2 := cell_later hb X2
      have x3 := cell_later hb X3
      have hu1 := HG.out.of hu
      have hv1 := HX.out.col.of hv
      have hP := (part_big HX.out hu1 hv1).1
      have hQ := (part_big HX.out hu1 hv1).2
      have hcov := HX.out.cover
      have hN := overL_take (x := x) hu hv
      obtain ⟨y, hy⟩ : ∃ y, overN x u v = y := ⟨_, rfl⟩
      rw [hy] at hN
      have HN := Lib.hid hN
      have HY : Hid (dR (u * (1000 - x.fCover) + v * x.fCover) 1000 = y) := Lib.hid hy
      clear hcs hcs1 hu hv hN hy
      have e1 : IntKind.i64.wrap (1000 - x.fCover) = 1000 - x.fCover := by rw [IntKind.wrap_i64]; omega
      have e2 : IntKind.i64.wrap (u * (1000 - x.fCover)) = u * (1000 - x.fCover) := by rw [IntKind.wrap_i64]; omega
      have e3 : IntKind.i64.wrap (v * x.fCover) = v * x.fCover := by rw [IntKind.wrap_i64]; omega
      have e4 : IntKind.i64.wrap (u * (1000 - x.fCover) + v * x.fCover) = u * (1000 - x.fCover) + v * x.fCover := by rw [IntKind.wrap_i64]; omega
      have HC : Hid (∀ W, Calls Tryz.prog 55 #[.int .i64 (u * (1000 - x.fCover) + v * x.fCover), .int .i64 1000] W fun e w' => e = .returned (.int .i64 y) ∧ W = w') := Lib.hid fun W => HY.out ▸ s_l01Div _ W (by omega) (by omega)
      have hbN : ∀ ob, Below wr.heap.size wr (wr.drew.alloc ob) := fun ob => ((Below.refl _ _).drew).alloc (Nat.le_refl _) ob
      have hbM : ∀ ob, Below wr.heap.size wr (wr.alloc ob).drew := fun ob => ((Below.refl _ _).alloc (Nat.le_refl _) ob).drew
      have hgN : ∀ ob, GL intE 2 w.heap.size (wr.drew.alloc ob) (.slice B k q) ((overL x g).take k) := fun ob => HGL.out.below (hbN ob)
      have hgM : ∀ ob, GL intE 2 w.heap.size (wr.alloc ob).drew (.slice B k q) ((overL x g).take k) := fun ob => HGL.out.below (hbM ob)
      have hrN : (wr.drew.alloc (.cells #[.int .i64 y] 2)).rangeAt wr.heap.size 0 [.int .i64 y] := range_new wr.drew #[.int .i64 y] 2
      have hrM : (wr.alloc (.cells #[.int .i64 y] 2)).drew.rangeAt wr.heap.size 0 [.int .i64 y] := range_new wr #[.int .i64 y] 2
      have hlo : ∀ j, Value.ownBlock (.slice B k q) = some j → w.heap.size ≤ j := fun j hj => (HGL.out.lt j hj).1
      have hsz : ∀ ob, w.heap.size ≤ (wr.drew.alloc ob).heap.size := fun ob => Nat.le_trans hbs (hbN ob).size
      have hsz2 : ∀ ob, w.heap.size ≤ (wr.alloc ob).drew.heap.size := fun ob => Nat.le_trans hbs (hbM ob).size
      go_wp2_with fail
      go_region_held3 (fun w' => w'.cell? ⟨bp, op + 2, none⟩ = some (.int .i64 x.fCover) ∧ w'.cell? ⟨bp, op + 3, none⟩ = some (.slice (some ⟨b1, off1, none⟩) 3 c1) ∧ w'.cell? ⟨b1, off1 + k, none⟩ = some (.int .i64 v) ∧ w'.cell? ⟨b, off + k, none⟩ = some (.int .i64 u))
        (first | exact ⟨x2, x3, h1, h0⟩ | (go_split_ands; exact ⟨by assumption, by assumption, by assumption, by assumption⟩)
               | exact ⟨cell_later (hbN _) x2, cell_later (hbN _) x3, cell_later (hbN _) h1, cell_later (hbN _) h0⟩ | exact ⟨cell_later (hbM _) x2, cell_later (hbM _) x3, cell_later (hbM _) h1, cell_later (hbM _) h0⟩ | exact ⟨cell_later hb2 X2, cell_later hb2 X3, cell_later hb2 H1, cell_later hb2 H0⟩)
        (first | (go_at_call 55; refine (HC.out _).mono ?_; rintro e w1 ⟨rfl, rfl⟩)
               | (refine step_pushO intE rfl _ _ 26 rfl w.heap.size 2 i0 _ 8 Tryz.underlying26 hi HZ.out.1 HZ.out.2 hz2 rfl B k q ((overL x g).take k) y rfl (hgN _) wr.heap.size rfl hrN (by omega) (by decide) (hsz _) ?_; intro BB2 cc2 w2 hgl2 ht2 hn2; have hb2 := Below.touch (hb.trans ((hbN (.cells #[.int .i64 y] 2)).mono hbs)) ht2 hlo (hsz _))
               | (refine step_pushO intE rfl _ _ 26 rfl w.heap.size 2 i0 _ 8 Tryz.underlying26 hi HZ.out.1 HZ.out.2 hz2 rfl B k q ((overL x g).take k) y rfl (hgM _) wr.heap.size rfl hrM (by omega) (by decide) (hsz2 _) ?_; intro BB2 cc2 w2 hgl2 ht2 hn2; have hb2 := Below.touch (hb.trans ((hbM (.cells #[.int .i64 y] 2)).mono hbs)) ht2 hlo (hsz2 _)))
      all_goals (
        have HG2 : Hid (GL intE 2 w.heap.size w2 (.slice BB2 (k + 1) cc2) ((overL x g).take (k + 1))) := Lib.hid (by rw [HN.out]; exact hgl2)
        clear hgl2 ht2 hn2 h0 h1 x2 x3 H0 H1 X2 X3 hP hQ hbN hbM hgN hgM hrN hrM hlo hsz hsz2
        go_wp2
        first | (refine ⟨⟨k + 1, BB2, cc2, by omega, by go_num, rfl, HG2, hb2⟩, ?_⟩; (simp [intOf]; omega)) | (go_roundw; (case rel => first | exact ⟨k + 1, BB2, cc2, by omega, by go_num, rfl, HG2, hb2⟩ | ((try refine ⟨trivial, ?_⟩); (repeat apply Exists.intro); exact ⟨⟨k + 1, BB2, cc2, by omega, by go_num, rfl, HG2, hb2⟩, rfl⟩)); (case measure => (simp [intOf]; omega))))
    · obtain rfl : k = 3 := by omega
      have hgl := HGL.out
      rw [List.take_of_length_le (by rw [overL_len HX.out HG.out]; exact Nat.le_refl _)] at hgl
      have HF := Lib.hid hgl.rd
      have hbF := bw.trans (hb.mono hsw)
      clear HGL hgl
      go_wp2
      go_ret
      exact ⟨B, q, rfl, HF.out, hbF⟩

set_option maxHeartbeats 1000000 in
theorem i_clone64 (A : Option Addr) (n c : Nat) (l : List Int) (w : World) (hr : Rd intE w A n l) (hl : Col l) :
    Calls Tryz.prog 26 #[.slice A n c] w (RetCol l w) := by
  obtain ⟨i0, hi, hz0, hz1, hz2⟩ := info_parts Tryz.info_v64
  have HN3 : Hid (n = 3) := Lib.hid (by rw [← hr.1]; exact hl.1)
  have hn8 : n ≤ 8 := by have := HN3.out; omega
  have Hl := Lib.hid hr.1
  obtain ⟨w1, hmk, ho1, hg1⟩ := run_make_own (P := Tryz.prog) w w.heap.size 26 2 i0 _ 1 Tryz.underlying26 hi hz0 hz1 .i64 .i64 n (by rw [hz2]; omega) (by unfold maxLen; omega) (Nat.le_refl _)
  have hb1 : Below w.heap.size w w1 := (Below.refl _ _).grown hg1 (Nat.le_refl _) (fun k hk => by cases hk)
  have hgl0 : GL intE 2 w.heap.size w1 (.slice (some ⟨w.heap.size, 0, none⟩) 0 n) [] := ho1
  have hr1 := hr.below hb1
  clear ho1 hg1
  go_enter Tryz.func26, Tryz.ntmps26
  go_wp2_with (at_builtin; refine wpList_fitL intE rfl _ _ 26 rfl w.heap.size 2 i0 Tryz.underlying26 hi hz1 w.heap.size 0 n [] l rfl hgl0 A n c rfl Hl.out (Rd.noneLen hr) (Rd.src hr1) (by omega) w hb1 hb1.size ?_; intro w2 hgl hb2 hs2)
  go_ret
  obtain rfl := HN3.out
  exact ⟨some ⟨w.heap.size, 0, none⟩, 3, by simp, by simpa using hgl.rd, hb2⟩
set_option maxHeartbeats 1000000 in
theorem s_l00Own (A : Option Addr) (n c : Nat) (l : List Int) (w : World) (hr : Rd intE w A n l) (hl : Col l) :
    Calls Tryz.prog 41 #[.slice A n c] w (RetCol l w) := by
  obtain ⟨i0, hi, hz0, hz1, hz2⟩ := info_parts Tryz.info_v64
  have HZ := Lib.hid (And.intro hz0 hz1); clear hz0 hz1
  obtain rfl : n = 3 := by rw [← hr.1]; exact hl.1
  have Hl := Lib.hid hr.1
  have hg0 : GL intE 2 w.heap.size (w.alloc (.cells #[] 2)) (.slice (some ⟨w.heap.size, 0, none⟩) 0 0) [] := GL.mk0 (Nat.le_refl _)
  have hb2 : Below w.heap.size w (w.alloc (.cells #[] 2)) := (Below.refl _ _).alloc (Nat.le_refl _) _
  have hr2 := hr.below hb2
  go_enter Tryz.func41, Tryz.ntmps41
  go_wp2_with (at_builtin; refine wpList_pushL intE rfl _ _ 26 rfl w.heap.size 2 i0 _ 8 Tryz.underlying26 hi HZ.out.1 HZ.out.2 hz2 rfl (.slice (some ⟨w.heap.size, 0, none⟩) 0 0) [] l rfl hg0 A 3 c rfl Hl.out (Rd.noneLen hr2) (Rd.src hr2) 3 (by simp) l (by simp) (by omega) (by decide) w hb2 hb2.size ?_; intro B1 d1 w3 hgl1 _ hb3 hs3)
  go_ret
  exact ⟨B1, d1, rfl, hgl1.rd, hb3⟩

set_option maxHeartbeats 1000000 in
theorem i_isOrder_yes (A : Option Addr) (n c : Nat) (l : List DCoat) (A1 : Option Addr) (n1 c1 : Nat) (ord : List Int) (w : World) (hl : l.length = n) (hn : n ≤ 4) (hr : Rd intE w A1 n1 ord) (ho : Ord5 l ord) :
    Calls Tryz.prog 25 #[.slice A n c, .slice A1 n1 c1] w fun e w' => e = .returned (.bool true) ∧ w = w' := by
  have h10 : n1 ≤ 10 := by rw [← hr.1]; exact ho.1
  have HO := Lib.hid ho.2
  have Hl := Lib.hid hl
  clear ho hl
  go_enter Tryz.func25, Tryz.ntmps25
  go_wp2_with fail
  go_loop [9] (fun i => ∃ k : Nat, k ≤ n1 ∧ i = .int .i64 k) (fun i => n1 - (intOf i).toNat)
  case atStart => exact ⟨0, Nat.zero_le _, rfl⟩
  case round =>
    obtain ⟨k, hk, rfl⟩ := hrel
    by_cases hlt : k < n1
    · obtain ⟨b, off, v, rfl, hv, hcs⟩ := hr.get hlt
      have h0 := hcs 0 _ rfl
      simp only [intE, Nat.mul_one, Nat.add_zero] at h0
      obtain ⟨p, x, rfl, hx⟩ := HO.out v (List.mem_of_getElem? hv)
      have hp : p < n := by rw [← Hl.out]; exact (List.getElem?_eq_some_iff.1 hx).1
      clear hcs hv hx
      go_wp2_with fail
      refine (i_at _ _ _ (by omega) (by omega)).mono ?_
      rintro e w' ⟨rfl, rfl⟩
      rw [inB_true (by omega) (by omega)]
      go_wp2
      first | (refine ⟨⟨k + 1, by omega, by go_num⟩, ?_⟩; (simp [intOf]; omega)) | (go_round; (case rel => first | exact ⟨k + 1, by omega, by go_num⟩ | ((try refine ⟨trivial, ?_⟩); (repeat apply Exists.intro); exact ⟨⟨k + 1, by omega, by go_num⟩, rfl⟩)); (case measure => (simp [intOf]; omega)))
    · obtain rfl : k = n1 := by omega
      go_wp2_with fail
      refine (i_few _ _ _ (by omega) (by omega)).mono ?_
      rintro e w' ⟨rfl, rfl⟩
      rw [decide_eq_true (by omega)]
      go_wp2
      go_ret
      exact ⟨rfl, rfl⟩

set_option maxHeartbeats 1000000 in
theorem s_l13Order_yes (A : Option Addr) (n c : Nat) (l : List DCoat) (A1 : Option Addr) (n1 c1 : Nat) (ord : List Int) (w : World) (hl : l.length = n) (hn : n ≤ 4) (hr : Rd intE w A1 n1 ord) (ho : Ord5 l ord) :
    Calls Tryz.prog 40 #[.slice A n c, .slice A1 n1 c1] w fun e w' => e = .returned (.bool true) ∧ w = w' := by
  have h10 : n1 ≤ 10 := by rw [← hr.1]; exact ho.1
  have HO := Lib.hid ho.2
  have Hl := Lib.hid hl
  clear ho hl
  go_enter Tryz.func40, Tryz.ntmps40
  go_wp2_with fail
  go_loop [5] (fun i => ∃ k : Nat, k ≤ n1 ∧ i = .int .i64 k) (fun i => n1 - (intOf i).toNat)
  case atStart => exact ⟨0, Nat.zero_le _, rfl⟩
  case round =>
    obtain ⟨k, hk, rfl⟩ := hrel
    by_cases hlt : k < n1
    · obtain ⟨b, off, v, rfl, hv, hcs⟩ := hr.get hlt
      have h0 := hcs 0 _ rfl
      simp only [intE, Nat.mul_one, Nat.add_zero] at h0
      obtain ⟨p, x, rfl, hx⟩ := HO.out v (List.mem_of_getElem? hv)
      have hp : p < n := by rw [← Hl.out]; exact (List.getElem?_eq_some_iff.1 hx).1
      clear hcs hv hx
      go_wp2_with fail
      refine (s_l00In _ _ _ _).mono ?_
      rintro e w' ⟨rfl, rfl⟩
      rw [inB_true (by omega) (by omega)]
      go_wp2
      first | (refine ⟨⟨k + 1, by omega, by go_num⟩, ?_⟩; (simp [intOf]; omega)) | (go_round; (case rel => first | exact ⟨k + 1, by omega, by go_num⟩ | ((try refine ⟨trivial, ?_⟩); (repeat apply Exists.intro); exact ⟨⟨k + 1, by omega, by go_num⟩, rfl⟩)); (case measure => (simp [intOf]; omega)))
    · obtain rfl : k = n1 := by omega
      go_wp2
      go_ret
      exact ⟨ret_bool (decide_eq_true (by omega)), rfl⟩

set_option maxHeartbeats 1000000 in
theorem i_colourGap (A : Option Addr) (n c : Nat) (A1 : Option Addr) (n1 c1 : Nat) (a b : List Int) (w : World) (hr : Rd intE w A n a) (hr1 : Rd intE w A1 n1 b) (ha : Col a) (hb : Col b) :
    Calls Tryz.prog 28 #[.slice A n c, .slice A1 n1 c1] w fun e w' => e = .returned (.int .i64 (gapL a b)) ∧ w = w' := by
  obtain rfl : n = 3 := by rw [← hr.1]; exact ha.1
  obtain rfl : n1 = 3 := by rw [← hr1.1]; exact hb.1
  have HA := Lib.hid ha; have HB := Lib.hid hb
  clear ha hb
  go_enter Tryz.func28, Tryz.ntmps28
  go_wp2_with fail
  go_loop [5, 10] (fun s i => ∃ k : Nat, k ≤ 3 ∧ i = .int .i64 k ∧ s = .int .i64 (gapTo a b k)) (fun _ i => 3 - (intOf i).toNat)
  case atStart => exact ⟨0, by omega, rfl, rfl⟩
  case round =>
    obtain ⟨k, hk, rfl, rfl⟩ := hrel
    have hg := gapTo_range HA.out HB.out hk
    by_cases hlt : k < 3
    · obtain ⟨b0, off, u, rfl, hu, hcs⟩ := hr.get hlt
      obtain ⟨b1, off1, v, rfl, hv, hcs1⟩ := hr1.get hlt
      have h0 := hcs 0 _ rfl
      have h1 := hcs1 0 _ rfl
      simp only [intE, Nat.mul_one, Nat.add_zero] at h0 h1
      have hu1 := HA.out.of hu
      have hv1 := HB.out.of hv
      have HN := Lib.hid (gapTo_next hu hv)
      have hd : 0 ≤ absD u v ∧ absD u v ≤ 255 := by unfold absD; omega
      obtain ⟨G, hG⟩ : ∃ G, gapTo a b k = G := ⟨_, rfl⟩
      rw [hG] at HN hg ⊢
      clear hcs hcs1 hu hv hG
      go_wp2_with fail
      refine (i_distance _ _ _ (by omega) (by omega)).mono ?_
      rintro e w' ⟨rfl, rfl⟩
      obtain ⟨D, hD⟩ : ∃ D, absD u v = D := ⟨_, rfl⟩
      rw [hD] at HN hd ⊢
      clear hD
      go_wp2
      first | (refine ⟨⟨k + 1, by omega, by go_num, by rw [HN.out]⟩, ?_⟩; (simp [intOf]; omega)) | (go_round; (case rel => first | exact ⟨k + 1, by omega, by go_num, by rw [HN.out]⟩ | ((try refine ⟨trivial, ?_⟩); (repeat apply Exists.intro); exact ⟨⟨k + 1, by omega, by go_num, by rw [HN.out]⟩, rfl⟩)); (case measure => (simp [intOf]; omega)))
    · obtain rfl : k = 3 := by omega
      have E := Lib.hid (gapTo_all (b := b) (n := 3) (Nat.le_of_eq HA.out.1))
      go_wp2
      go_ret
      exact ⟨ret_int E.out, rfl⟩
set_option maxHeartbeats 1000000 in
theorem s_l13Gap (A : Option Addr) (n c : Nat) (A1 : Option Addr) (n1 c1 : Nat) (a b : List Int) (w : World) (hr : Rd intE w A n a) (hr1 : Rd intE w A1 n1 b) (ha : Col a) (hb : Col b) :
    Calls Tryz.prog 38 #[.slice A n c, .slice A1 n1 c1] w fun e w' => e = .returned (.int .i64 (gapL a b)) ∧ Below w.heap.size w w' := by
  obtain rfl : n = 3 := by rw [← hr.1]; exact ha.1
  obtain rfl : n1 = 3 := by rw [← hr1.1]; exact hb.1
  have HA := Lib.hid ha; have HB := Lib.hid hb
  clear ha hb
  go_enter Tryz.func38, Tryz.ntmps38
  go_wp2_with fail
  go_loopw [5, 6] (fun s i wr => ∃ k : Nat, k ≤ 3 ∧ i = .int .i64 k ∧ s = .int .i64 (gapTo a b k) ∧ Below w.heap.size w wr) (fun _ i _ => 3 - (intOf i).toNat)
  case atStart => exact ⟨0, by omega, rfl, rfl, Below.refl _ _⟩
  case round =>
    obtain ⟨k, hk, rfl, rfl, hbw⟩ := hrel
    have hg := gapTo_range HA.out HB.out hk
    by_cases hlt : k < 3
    · obtain ⟨b0, off, u, rfl, hu, hcs⟩ := (hr.below hbw).get hlt
      obtain ⟨b1, off1, v, rfl, hv, hcs1⟩ := (hr1.below hbw).get hlt
      have h0 := hcs 0 _ rfl
      have h1 := hcs1 0 _ rfl
      simp only [intE, Nat.mul_one, Nat.add_zero] at h0 h1
      have hu1 := HA.out.of hu
      have hv1 := HB.out.of hv
      have HN := Lib.hid (gapTo_next hu hv)
      have hd : 0 ≤ absD u v ∧ absD u v ≤ 255 := by unfold absD; omega
      have C0 : ∀ W, Calls Tryz.prog 53 #[.int .i64 u, .int .i64 v] (wr.drewN W) fun e w' => e = .returned (.int .i64 (absD u v)) ∧ wr.drewN W = w' := fun W => s_l03Abs u v _ (by omega) (by omega)
      obtain ⟨G, hG⟩ : ∃ G, gapTo a b k = G := ⟨_, rfl⟩
      obtain ⟨D, hD⟩ : ∃ D, absD u v = D := ⟨_, rfl⟩
      rw [hG] at HN hg ⊢
      rw [hD] at HN hd C0
      clear hcs hcs1 hu hv hG hD
      go_wp2_with fail
      go_quiet (first | (go_at_call 53; with_reducible exact quiet_left (C0 _)))
      clear C0
      go_wp2
      first | (refine ⟨⟨k + 1, by omega, by go_num, by rw [HN.out], below_drewN hbw _⟩, ?_⟩; (simp [intOf]; omega)) | (go_roundw; (case rel => first | exact ⟨k + 1, by omega, by go_num, by rw [HN.out], below_drewN hbw _⟩ | ((try refine ⟨trivial, ?_⟩); (repeat apply Exists.intro); exact ⟨⟨k + 1, by omega, by go_num, by rw [HN.out], below_drewN hbw _⟩, rfl⟩)); (case measure => (simp [intOf]; omega)))
    · obtain rfl : k = 3 := by omega
      have E := Lib.hid (gapTo_all (b := b) (n := 3) (Nat.le_of_eq HA.out.1))
      go_wp2
      go_ret
      exact ⟨ret_int E.out, hbw⟩

theorem i_ColourGap_yes (A : Option Addr) (n c : Nat) (A1 : Option Addr) (n1 c1 : Nat) (a b : List Int) (w : World) (hr : Rd intE w A n a) (hr1 : Rd intE w A1 n1 b) (ha : Col a) (hb : Col b) :
    Calls Tryz.prog 10 #[.slice A n c, .slice A1 n1 c1] w fun e w' => e = .returned (.tuple #[.int .i64 (gapL a b), .int .i64 0]) ∧ Below w.heap.size w w' := by
  have m1 : n ≤ maxLen := by rw [← hr.1, ha.1]; decide
  have m2 : n1 ≤ maxLen := by rw [← hr1.1, hb.1]; decide
  have e1 := col_yes ha
  have e2 := col_yes hb
  have HA := Lib.hid ha; have HB := Lib.hid hb
  clear ha hb
  go_enter Tryz.func10, Tryz.ntmps10
  go_wp2_with fail
  refine (i_isColour A n c a w hr m1).mono ?_
  rw [e1]
  rintro e w1 ⟨rfl, b1⟩
  go_wp2_with fail
  refine (i_isColour A1 n1 c1 b w1 (hr1.below b1) m2).mono ?_
  rw [e2]
  rintro e w2 ⟨rfl, b2⟩
  have b12 := b1.trans (b2.mono b1.size)
  clear b1 b2
  go_wp2_with fail
  refine (i_colourGap A n c A1 n1 c1 a b w2 (hr.below b12) (hr1.below b12) HA.out HB.out).mono ?_
  rintro e w3 ⟨rfl, rfl⟩
  go_wp2
  go_ret2
  exact ⟨rfl, b12⟩

theorem s_ColourGap_yes (A : Option Addr) (n c : Nat) (A1 : Option Addr) (n1 c1 : Nat) (a b : List Int) (w : World) (hr : Rd intE w A n a) (hr1 : Rd intE w A1 n1 b) (ha : Col a) (hb : Col b) :
    Calls Tryz.prog 19 #[.slice A n c, .slice A1 n1 c1] w fun e w' => e = .returned (.tuple #[.int .i64 (gapL a b), .int .i64 0]) ∧ Below w.heap.size w w' := by
  have m1 : n ≤ maxLen := by rw [← hr.1, ha.1]; decide
  have m2 : n1 ≤ maxLen := by rw [← hr1.1, hb.1]; decide
  have e1 := col_yes ha
  have e2 := col_yes hb
  have HA := Lib.hid ha; have HB := Lib.hid hb
  clear ha hb
  go_enter Tryz.func19, Tryz.ntmps19
  go_wp2_with fail
  refine (s_l13Colour A n c a w hr m1).mono ?_
  rw [e1]
  rintro e w1 ⟨rfl, b1⟩
  go_wp2_with fail
  refine (s_l13Colour A1 n1 c1 b w1 (hr1.below b1) m2).mono ?_
  rw [e2]
  rintro e w2 ⟨rfl, b2⟩
  have b12 := b1.trans (b2.mono b1.size)
  clear b1 b2
  go_wp2_with fail
  refine (s_l13Gap A n c A1 n1 c1 a b w2 (hr.below b12) (hr1.below b12) HA.out HB.out).mono ?_
  rintro e w3 ⟨rfl, b3⟩
  go_wp2
  go_ret2
  exact ⟨rfl, b12.trans (b3.mono b12.size)⟩

end Go.Proofs.YtbdjhecbingcjaaGreatDoor
