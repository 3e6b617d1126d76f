/- A further version: both sides. Printed by a program of mine. -/
import Derived.Test.YtfabijhilfjkcaaRows
import Derived.Test.YtfabijhilfjkcaaOwn
import Derived.Test.YtfabijhilfjkcaaStepO
namespace Go.Proofs.Ytfabijhilfjkcaa
set_option linter.unusedVariables false
set_option linter.unusedSimpArgs false
set_option linter.unusedSectionVars false
open Go.RowKit
set_option maxRecDepth 100000

theorem add_full {l : List DVersion} (p : Int) (memo : ByteArray) (st : List DSetting) (h : l.length = 32) : addV l p memo st = ([], 5) := by unfold addV; rw [if_pos h]
theorem add_ok {l : List DVersion} (p : Int) (memo : ByteArray) (st : List DSetting) (h : ¬ l.length = 32) : addV l p memo st = (l ++ [⟨(l.length : Int) + 1, p, memo, st⟩], 0) := by unfold addV; rw [if_neg h]

theorem ADDV_done {B0 : Nat} {w4 w w1 : World} {A A' : Option Addr} {n c c' n3 d1 : Nat} {B1 : Option Addr} {p u : Int} {memo : ByteArray} {r : List RawV} {l : List DVersion} {st : List DSetting}
    (h : GV w4.heap.size w A n c r l) (hrow : GL settingE 56 B0 w4 (.slice B1 n3 d1) st) (hb : Below w4.heap.size w4 w) (hB : B0 ≤ w4.heap.size)
    (hg : GL rawVE 45 w4.heap.size w1 (.slice A' (n + 1) c') (r ++ [⟨u, p, memo, B1, n3, d1⟩])) (ht : Touch (fun k => Value.ownBlock (.slice A n c) = some k) w w1)
    (hn : ∀ k, Value.ownBlock (.slice A' (n + 1) c') = some k → Value.ownBlock (.slice A n c) = some k ∨ w.heap.size ≤ k) : GV B0 w1 A' (n + 1) c' (r ++ [⟨u, p, memo, B1, n3, d1⟩]) (l ++ [⟨u, p, memo, st⟩]) :=
  GV.push2 (h.mono hB) ⟨rfl, rfl, rfl⟩ (hrow.below hb) (fun k h1 h2 => by have := (h.own.lt k h1).1; have := (hrow.lt k h2).2; omega) (fun i y hy k h1 h2 => by have := (h.low.2 i y hy k h1).1; have := (hrow.lt k h2).2; omega) (hg.mono hB) ht hn
set_option maxHeartbeats 2000000 in
theorem i_commit (A : Option Addr) (n c : Nat) (l : List DVersion) (p : Int) (memo : ByteArray) (A3 : Option Addr) (n3 c3 : Nat) (st : List DSetting) (w0 : World) (hr : RdVersion w0 A n l) (hr3 : Rd settingE w0 A3 n3 st) (hn : n ≤ 32) (hs : ∀ x ∈ l, x.fState.length ≤ 24) (h3 : n3 ≤ 24) :
    Calls Try.prog 26 #[.slice A n c, .int .i64 p, .string memo, .slice A3 n3 c3] w0 (RetVer (addV l p memo st).1 (addV l p memo st).2 w0) := by
  obtain ⟨i0, hi, hz0, hz1, hz2⟩ := info_parts Try.info_Version
  have HZ := Lib.hid (And.intro hz0 hz1); clear hz0 hz1
  obtain ⟨j0, gi, gz0, gz1, gz2⟩ := info_parts Try.inf_Setting
  have GZ := Lib.hid (And.intro gz0 gz1); clear gz0 gz1
  have Hl := Lib.hid hr.len
  have HS := Lib.hid hs; clear hs
  by_cases h32 : n = 32
  · have EM := Lib.hid (add_full (l := l) p memo st (by rw [hr.len]; exact h32))
    have hd : ((n : Int) == 32) = true := by rw [beq_iff_eq]; omega
    go_enter Try.func26, Try.ntmps26
    go_wp2
    go_ret2
    exact RetVer.nil (by rw [EM.out]) (by rw [EM.out]) (Below.refl _ _)
  have hd : ((n : Int) == 32) = false := by rw [beq_eq_false_iff_ne]; omega
  have EM := Lib.hid (add_ok (l := l) p memo st (by rw [hr.len]; exact h32))
  rw [hr.len] at EM
  go_enter Try.func26, Try.ntmps26
  go_wp2_with fail
  refine (i_copyHistory A n c l w0 hr hn HS.out).mono ?_
  rintro e w1 ⟨B, q, r, rfl, hgv, hb1⟩
  go_wp2_with fail
  refine (i_cloneSetting A3 n3 c3 st w1 (hr3.below hb1) (by omega)).mono ?_
  rintro e w3 ⟨g1, rfl, hgl1, hb2⟩
  have hb3 := hb1.trans (hb2.mono hb1.size)
  have hbs3 := hb3.size
  have hgv3 := hgv.below hb2
  have hgo := hgv3.own
  have hrow := hgl1.mono hb1.size
  have hlow : ∀ j, Value.ownBlock (.slice (some ⟨g1, 0, none⟩) n3 n3) = some j → w1.heap.size ≤ j := fun j hj => (hgl1.lt j hj).1
  go_wp2_with (at_builtin; refine wpList_pushO rawVE rfl _ _ 24 rfl w0.heap.size 45 i0 _ 56 Try.underlying24 hi HZ.out.1 HZ.out.2 hz2 rfl B n q r ⟨(n : Int) + 1, p, memo, (some ⟨g1, 0, none⟩), n3, n3⟩ rfl (hgo.alloc _) w3.heap.size rfl (range_new _ _ _) (by omega) (by decide) (Nat.le_trans hbs3 (by simp)) ?_; intro BB7 cc7 w7 hgl7 ht7 hn7)
  have hb7 := Below.touch (hb3.alloc hbs3 (.cells #[.int .i64 ((n : Int) + 1), .int .i64 p, .string memo, .slice (some ⟨g1, 0, none⟩) n3 n3] 45)) ht7 (fun k hk => (hgo.lt k hk).1) (Nat.le_trans hbs3 (by simp))
  have hal : Below w3.heap.size w3 (w3.alloc (.cells #[.int .i64 ((n : Int) + 1), .int .i64 p, .string memo, .slice (some ⟨g1, 0, none⟩) n3 n3] 45)) := (Below.refl _ _).alloc (Nat.le_refl _) _
  have HF : Hid (GV w0.heap.size w7 BB7 (n + 1) cc7 (r ++ [⟨(n : Int) + 1, p, memo, (some ⟨g1, 0, none⟩), n3, n3⟩]) (l ++ [⟨(n : Int) + 1, p, memo, st⟩])) := Lib.hid (GV.push hgv (hgv3.below hal) ⟨rfl, rfl, rfl⟩ (hrow.below hal) hlow hgl7 ht7 hn7)
  clear hgv3 hgo hrow hlow hgl7 ht7 hn7 hal hgl1
  go_ret2
  exact RetVer.mk HF.out (by rw [EM.out]) (by rw [EM.out]) hb7

set_option maxHeartbeats 4000000 in
theorem s_l27Add (A : Option Addr) (n c : Nat) (l : List DVersion) (p : Int) (memo : ByteArray) (A3 : Option Addr) (n3 c3 : Nat) (st : List DSetting) (w0 : World) (hr : RdVersion w0 A n l) (hr3 : Rd settingE w0 A3 n3 st) (hn : n ≤ 32) (hs : ∀ x ∈ l, x.fState.length ≤ 24) (h3 : n3 ≤ 24) :
    Calls Try.prog 18 #[.slice A n c, .int .i64 p, .string memo, .slice A3 n3 c3] w0 (RetVer (addV l p memo st).1 (addV l p memo st).2 w0) := by
  obtain ⟨i0, hi, hz0, hz1, hz2⟩ := info_parts Try.info_Version
  have HZ := Lib.hid (And.intro hz0 hz1); clear hz0 hz1
  obtain ⟨j0, gi, gz0, gz1, gz2⟩ := info_parts Try.inf_Setting
  have GZ := Lib.hid (And.intro gz0 gz1); clear gz0 gz1
  have Hl := Lib.hid hr.len
  have HS := Lib.hid hs; clear hs
  by_cases h32 : n = 32
  · have EM := Lib.hid (add_full (l := l) p memo st (by rw [hr.len]; exact h32))
    have hd : ((n : Int) == 32) = true := by rw [beq_iff_eq]; omega
    go_enter Try.func18, Try.ntmps18
    go_wp2
    go_ret2
    exact RetVer.nil (by rw [EM.out]) (by rw [EM.out]) (Below.refl _ _)
  have hd : ((n : Int) == 32) = false := by rw [beq_eq_false_iff_ne]; omega
  have EM := Lib.hid (add_ok (l := l) p memo st (by rw [hr.len]; exact h32))
  rw [hr.len] at EM
  have hg0 : GL settingE 56 w0.heap.size (w0.alloc (.cells #[] 56)) (.slice (some ⟨w0.heap.size, 0, none⟩) 0 0) [] := GL.mk0 (Nat.le_refl _)
  have hb2 : Below w0.heap.size w0 (w0.alloc (.cells #[] 56)) := (Below.refl _ _).alloc (Nat.le_refl _) _
  have hr2 := hr3.below hb2
  have HL3 := Lib.hid hr3.1
  go_enter Try.func18, Try.ntmps18
  go_wp2_with (at_builtin; refine wpList_pushL settingE rfl _ _ 38 rfl w0.heap.size 56 j0 _ 24 Try.underlying38 gi GZ.out.1 GZ.out.2 gz2 rfl (.slice (some ⟨w0.heap.size, 0, none⟩) 0 0) [] st rfl hg0 A3 n3 c3 rfl HL3.out (Rd.noneLen hr2) (Rd.src hr2) n3 (by simp) st (by simp) (by omega) (by decide) w0 hb2 hb2.size ?_; intro B1 d1 w3 hgl1 _ hb3 hs3)
  have R := range_new w3 #[.int .i64 ((n : Int) + 1), .int .i64 p, .string memo, .slice B1 n3 d1] 45
  have ba : Below w3.heap.size w3 (w3.alloc (.cells #[.int .i64 ((n : Int) + 1), .int .i64 p, .string memo, .slice B1 n3 d1] 45)) := (Below.refl _ _).alloc (Nat.le_refl _) _
  obtain ⟨W4, hW4⟩ : ∃ W, w3.alloc (.cells #[.int .i64 ((n : Int) + 1), .int .i64 p, .string memo, .slice B1 n3 d1] 45) = W := ⟨_, rfl⟩
  rw [hW4] at R ba
  try rw [hW4]
  have k0 := R 0 _ rfl
  have k1 := R 1 _ rfl
  have k2 := R 2 _ rfl
  have k3 := R 3 _ rfl
  simp only [Nat.zero_add] at k0 k1 k2 k3
  obtain ⟨bx, hbx⟩ : ∃ g, w3.heap.size = g := ⟨_, rfl⟩
  rw [hbx] at k0 k1 k2 k3
  try rw [hbx]
  have hb4 := hb3.trans (ba.mono hb3.size)
  have hs4 := hb4.size
  have hrow4 := hgl1.below ba
  clear R hW4 hbx hg0 hb2 hr2 hgl1
  have HOWN : Hid (∀ W, Below W4.heap.size W4 W → Calls Try.prog 39 #[.slice A n c] W fun e w' => ∃ B q r, e = .returned (.slice B n q) ∧ GV W4.heap.size w' B n q r l ∧ Below W4.heap.size W4 w' ∧ Below W.heap.size W w') := Lib.hid fun W h =>
    (s_l27Own A n c l W (hr.below (hb4.trans (h.mono hs4))) hn HS.out).mono fun e w' ⟨B, q, r, h1, h2, h5⟩ => ⟨B, q, r, h1, h2.mono h.size, h.trans (h5.mono h.size), h5⟩
  have hbN : ∀ ob, Below W4.heap.size W4 (W4.drew.alloc ob) := fun ob => ((Below.refl _ _).drew).alloc (Nat.le_refl _) ob
  have hlit : (W4.alloc (.cells #[.int .i64 ((n : Int) + 1), .int .i64 p, .string memo, .slice B1 n3 d1] 45)).drew.rangeAt W4.heap.size 0 [.int .i64 ((n : Int) + 1), .int .i64 p, .string memo, .slice B1 n3 d1] := range_new W4 #[.int .i64 ((n : Int) + 1), .int .i64 p, .string memo, .slice B1 n3 d1] 45
  go_wp2_with fail
  go_region_held3 (fun w' => w'.cell? ⟨bx, 0, none⟩ = some (.int .i64 ((n : Int) + 1)) ∧ w'.cell? ⟨bx, 1, none⟩ = some (.int .i64 p) ∧ w'.cell? ⟨bx, 2, none⟩ = some (.string memo) ∧ w'.cell? ⟨bx, 3, none⟩ = some (.slice B1 n3 d1) ∧ Below W4.heap.size W4 w')
    (first | exact ⟨k0, k1, k2, k3, (Below.refl _ _).drew⟩
           | exact ⟨cell_later hb7 k0, cell_later hb7 k1, cell_later hb7 k2, cell_later hb7 k3, hb7⟩
           | exact ⟨cell_later (hbO.alloc hbO.size _) k0, cell_later (hbO.alloc hbO.size _) k1, cell_later (hbO.alloc hbO.size _) k2, cell_later (hbO.alloc hbO.size _) k3, hbO.alloc hbO.size _⟩
           | exact ⟨cell_later hbO k0, cell_later hbO k1, cell_later hbO k2, cell_later hbO k3, hbO⟩
           | exact ⟨cell_later (hbN _) k0, cell_later (hbN _) k1, cell_later (hbN _) k2, cell_later (hbN _) k3, hbN _⟩)
    (first | (go_at_call 39; refine (HOWN.out _ (by first | exact (Below.refl _ _).drew | exact hbN _)).mono ?_; rintro e w5 ⟨BO, qO, rO, rfl, hgvO, hbO, hb2⟩)
           | (refine step_pushO rawVE rfl _ _ 24 rfl W4.heap.size 45 i0 _ 56 Try.underlying24 hi HZ.out.1 HZ.out.2 hz2 rfl BO n qO rO ⟨(n : Int) + 1, p, memo, B1, n3, d1⟩ rfl (hgvO.own.alloc _) w5.heap.size rfl (range_new _ _ _) (by omega) (by decide) (Nat.le_trans hbO.size (by simp)) ?_; intro BB7 cc7 w7 hgl7 ht7 hn7; have hb7 := Below.touch (hbO.alloc hbO.size (.cells #[.int .i64 ((n : Int) + 1), .int .i64 p, .string memo, .slice B1 n3 d1] 45)) ht7 (fun k hk => (hgvO.own.lt k hk).1) (Nat.le_trans hbO.size (by simp)); have hal : Below w5.heap.size w5 (w5.alloc (.cells #[.int .i64 ((n : Int) + 1), .int .i64 p, .string memo, .slice B1 n3 d1] 45)) := (Below.refl _ _).alloc (Nat.le_refl _) _; have HF := ADDV_done (hgvO.below hal) hrow4 ((hbO.trans (hal.mono hbO.size))) hs4 hgl7 ht7 hn7)
           | (refine step_pushO rawVE rfl _ _ 24 rfl W4.heap.size 45 i0 _ 56 Try.underlying24 hi HZ.out.1 HZ.out.2 hz2 rfl BO n qO rO ⟨(n : Int) + 1, p, memo, B1, n3, d1⟩ rfl hgvO.own W4.heap.size rfl (range_below (B := 0) hlit hb2) (by omega) (by decide) hbO.size ?_; intro BB7 cc7 w7 hgl7 ht7 hn7; have hb7 := Below.touch hbO ht7 (fun k hk => (hgvO.own.lt k hk).1) hbO.size; have HF := ADDV_done hgvO hrow4 hbO hs4 hgl7 ht7 hn7))
  all_goals (
    have hbF := hb4.trans (hb7.mono hs4)
    have HG := Lib.hid HF
    clear HF hgl7 ht7 hn7 hgvO k0 k1 k2 k3 hlit
    go_wp2
    go_ret2
    exact RetVer.mk HG.out (by rw [EM.out]) (by rw [EM.out]) hbF)

end Go.Proofs.Ytfabijhilfjkcaa
