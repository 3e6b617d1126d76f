/- The source of choices of the laws: what it holds, and that a number that it picks lies below what is asked. -/
import Derived.Test.YtbdjhecbingcjaaGreatDoorRows
import Derived.Test.YtbdjhecbingcjaaGreatDoorMem
import Derived.Test.YtbdjhecbingcjaaGreatDoorTouch
import Derived.Test.YtbdjhecbingcjaaGreatDoorDec
import Derived.Test.YtbdjhecbingcjaaGreatDoorResG
import Derived.Test.YtbdjhecbingcjaaGreatDoorCrcLaw
import Derived.Deep.RegionHeld3
namespace Go.Proofs.YtbdjhecbingcjaaGreatDoor
set_option linter.unusedVariables false
set_option linter.unusedSimpArgs false
set_option linter.unusedSectionVars false
open Go.RowKit

theorem u64_and255 (a : Int) : ∃ k : Nat, k ≤ 255 ∧ bits .and .u64 a 255 = (k : Int) := by
  refine ⟨(BitVec.ofInt 64 a &&& BitVec.ofInt 64 255).toNat, ?_, ?_⟩
  · rw [BitVec.toNat_and]
    exact Nat.le_trans Nat.and_le_right (by decide)
  · show IntKind.u64.wrap ((BitVec.ofInt 64 a &&& BitVec.ofInt 64 255).toNat : Int) = _
    have h : (BitVec.ofInt 64 a &&& BitVec.ofInt 64 255).toNat ≤ 255 := by
      rw [BitVec.toNat_and]
      exact Nat.le_trans Nat.and_le_right (by decide)
    rw [IntKind.wrap_u64]
    omega
/-- The source in block g; it has been asked m times at most. -/
def SrcW (g m : Nat) (w : World) : Prop :=
  ∃ (A : Option Addr) (n c : Nat) (l : List UInt8) (k : Nat) (s : Int), n ≤ 1048576 ∧ k ≤ m ∧ g < w.heap.size ∧ w.cell? ⟨g, 0, none⟩ = some (.slice A n c) ∧ w.cell? ⟨g, 1, none⟩ = some (.int .i64 k) ∧ w.cell? ⟨g, 2, none⟩ = some (.int .u64 s) ∧
    (∀ j, w.frozen? ⟨g, j, none⟩ = false) ∧ Rd byteE w A n l ∧ (0 < n → ∀ b o p, A = some ⟨b, o, p⟩ → b < g)
theorem SrcW.more {g m m' : Nat} {w : World} (h : SrcW g m w) (hm : m ≤ m') : SrcW g m' w := by
  obtain ⟨A, n, c, l, k, s, h1, h2, h3⟩ := h
  exact ⟨A, n, c, l, k, s, h1, by omega, h3⟩
theorem free_touch {F : Nat → Prop} {w w' : World} {p : Addr} (h : w.frozen? p = false) (hp : p.block < w.heap.size) (hF : ¬ F p.block) (ht : Touch F w w') : w'.frozen? p = false := by
  unfold World.frozen? at *
  rw [ht.block p.block hp hF]
  exact h
theorem Rd.touch {α : Type} {E : Enc α} {F : Nat → Prop} {w w' : World} {A : Option Addr} {n : Nat} {l : List α} (h : Rd E w A n l) (ht : Touch F w w') (hF : 0 < n → ∀ b o p, A = some ⟨b, o, p⟩ → ¬ F b) : Rd E w' A n l :=
  ⟨h.1, fun hn => by
    obtain ⟨b, off, e, hc⟩ := h.2 hn
    exact ⟨b, off, e, fun k x hx => range_touch (hc k x hx) ht (hF hn _ _ _ e)⟩⟩
theorem Rd.blockLt {α : Type} {E : Enc α} {w : World} {A : Option Addr} {n : Nat} {l : List α} (h : Rd E w A n l) : 0 < n → ∀ b o p, A = some ⟨b, o, p⟩ → b < w.heap.size := fun hn b o p e => by
  obtain ⟨b', off, x, hA, hx, hc⟩ := h.get hn
  rw [e] at hA
  cases hA
  have hl : 0 < (E.cells x).length := by rw [E.len]; exact E.pos
  exact World.block_lt_of_cell? w _ (hc 0 _ (List.getElem?_eq_getElem hl))
theorem SrcW.touch {F : Nat → Prop} {g m : Nat} {w w' : World} (h : SrcW g m w) (ht : Touch F w w') (hF : ∀ k, k ≤ g → ¬ F k) : SrcW g m w' := by
  obtain ⟨A, n, c, l, k, s, h1, h2, h3, h4, h5, h6, h7, h8, h9⟩ := h
  have hg := hF g (Nat.le_refl _)
  exact ⟨A, n, c, l, k, s, h1, h2, Nat.lt_of_lt_of_le h3 ht.size, touch_cell ht hg h4, touch_cell ht hg h5, touch_cell ht hg h6, fun j => free_touch (h7 j) h3 hg ht, h8.touch ht fun hn b o p e => hF b (Nat.le_of_lt (h9 hn b o p e)), h9⟩
theorem SrcW.below {g m : Nat} {w w' : World} (h : SrcW g m w) (hb : Below w.heap.size w w') : SrcW g m w' := h.touch (F := fun _ => False) (Touch.of_below hb) fun _ _ h => h
theorem SrcW.set {g k m : Nat} {w : World} {A : Option Addr} {n c : Nat} {l : List UInt8} {s s' v : Int} (h1 : n ≤ 1048576) (h2 : k + 1 ≤ m) (h3 : g < w.heap.size) (h4 : w.cell? ⟨g, 0, none⟩ = some (.slice A n c)) (h5 : w.cell? ⟨g, 1, none⟩ = some (.int .i64 v)) (h6 : w.cell? ⟨g, 2, none⟩ = some (.int .u64 s))
    (h7 : ∀ j, w.frozen? ⟨g, j, none⟩ = false) (h8 : Rd byteE w A n l) (h9 : 0 < n → ∀ b o p, A = some ⟨b, o, p⟩ → b < g) : SrcW g m ((w.setCell ⟨g, 1, none⟩ (.int .i64 ((k + 1 : Nat) : Int))).setCell ⟨g, 2, none⟩ (.int .u64 s')) := by
  have ht : Touch (fun j => j = g) w ((w.setCell ⟨g, 1, none⟩ (.int .i64 ((k + 1 : Nat) : Int))).setCell ⟨g, 2, none⟩ (.int .u64 s')) := (Touch.setCell (F := fun j => j = g) (p := ⟨g, 1, none⟩) rfl _).trans (Touch.setCell (F := fun j => j = g) (p := ⟨g, 2, none⟩) rfl _)
  refine ⟨A, n, c, l, k + 1, s', h1, h2, Nat.lt_of_lt_of_le h3 ht.size, ?_, ?_, ?_, fun j => ?_, h8.touch ht fun hn b o p e => by have := h9 hn b o p e; omega, h9⟩
  · rw [World.cell?_setCell_other _ _ _ _ (by simp), World.cell?_setCell_other _ _ _ _ (by simp)]; exact h4
  · rw [World.cell?_setCell_other _ _ _ _ (by simp)]; exact World.cell?_setCell_same _ _ _ h5
  · exact World.cell?_setCell_same (v := .int .u64 s') (w := w.setCell ⟨g, 1, none⟩ (.int .i64 ((k + 1 : Nat) : Int))) (a := ⟨g, 2, none⟩) (by rw [World.cell?_setCell_other _ _ _ _ (by simp)]; exact h6)
  · rw [World.frozen?_setCell, World.frozen?_setCell]; exact h7 j

theorem SrcW.drewN {g m : Nat} {w : World} (h : SrcW g m w) (k : Nat) : SrcW g m (w.drewN k) := h
theorem Touch.drewN {F : Nat → Prop} {w w' : World} (h : Touch F w w') (k : Nat) : Touch F w (w'.drewN k) := ⟨h.os, h.tape, h.output, h.size, h.block⟩
theorem src_step {g k m : Nat} {w : World} {A : Option Addr} {n c : Nat} {l : List UInt8} {s : Int} (h1 : n ≤ 1048576) (h2 : k + 1 ≤ m) (h3 : g < w.heap.size) (h4 : w.cell? ⟨g, 0, none⟩ = some (.slice A n c)) (h5 : w.cell? ⟨g, 1, none⟩ = some (.int .i64 k)) (h6 : w.cell? ⟨g, 2, none⟩ = some (.int .u64 s))
    (h7 : ∀ j, w.frozen? ⟨g, j, none⟩ = false) (h8 : Rd byteE w A n l) (h9 : 0 < n → ∀ b o p, A = some ⟨b, o, p⟩ → b < g) (W : World) (v s' : Int) (W2 : World) (hW2 : (W.setCell ⟨g, 1, none⟩ (.int .i64 v)).setCell ⟨g, 2, none⟩ (.int .u64 s') = W2) (hW : W.heap = w.heap ∧ W.os = w.os ∧ W.tape = w.tape ∧ W.output = w.output) (hv : v = (k : Int) + 1) :
    (∀ d, SrcW g m (W2.drewN d) ∧ Touch (fun k => k = g) w (W2.drewN d)) ∧ W2.cell? ⟨g, 0, none⟩ = some (.slice A n c) ∧ W2.cell? ⟨g, 1, none⟩ = some (.int .i64 ((k : Int) + 1)) ∧ W2.cell? ⟨g, 2, none⟩ = some (.int .u64 s') := by
  have ht : Touch (fun j => j = g) W ((W.setCell ⟨g, 1, none⟩ (.int .i64 v)).setCell ⟨g, 2, none⟩ (.int .u64 s')) := (Touch.setCell (F := fun j => j = g) (p := ⟨g, 1, none⟩) rfl _).trans (Touch.setCell (F := fun j => j = g) (p := ⟨g, 2, none⟩) rfl _)
  have ht0 : Touch (fun j => j = g) w W := ⟨hW.2.1, hW.2.2.1, hW.2.2.2, by rw [hW.1]; exact Nat.le_refl _, fun k _ _ => by rw [hW.1]⟩
  have hc : ∀ p, W.cell? p = w.cell? p := fun p => World.cell?_of_block (by rw [hW.1])
  have hf : ∀ j, W.frozen? ⟨g, j, none⟩ = false := fun j => by have := h7 j; unfold World.frozen? at *; rw [hW.1]; exact this
  subst hv hW2
  refine ⟨fun d => ⟨SrcW.drewN (SrcW.set h1 h2 (by rw [hW.1]; exact h3) ((hc _).trans h4) ((hc _).trans h5) ((hc _).trans h6) hf (h8.below ⟨hW.2.1, hW.2.2.1, hW.2.2.2, by rw [hW.1]; exact Nat.le_refl _, fun k _ => by rw [hW.1]⟩) h9) d, Touch.drewN (ht0.trans ht) d⟩, ?_, ?_, ?_⟩
  · rw [World.cell?_setCell_other _ _ _ _ (by simp), World.cell?_setCell_other _ _ _ _ (by simp), hc]; exact h4
  · rw [World.cell?_setCell_other _ _ _ _ (by simp)]; exact World.cell?_setCell_same _ _ _ ((hc _).trans h5)
  · exact World.cell?_setCell_same (v := .int .u64 s') (w := W.setCell ⟨g, 1, none⟩ (.int .i64 ((k : Int) + 1))) (a := ⟨g, 2, none⟩) (by rw [World.cell?_setCell_other _ _ _ _ (by simp)]; exact (hc _).trans h6)
set_option maxRecDepth 100000 in
set_option maxHeartbeats 2000000 in
theorem s_next (g m : Nat) (w : World) (h : SrcW g m w) (hm : m < 4611686018427387904) :
    Calls Tryz.prog 56 #[.pointer (some ⟨g, 0, none⟩)] w fun e w' => ∃ r : Nat, r ≤ 255 ∧ e = .returned (.int .i64 r) ∧ SrcW g (m + 1) w' ∧ Touch (fun k => k = g) w w' := by
  obtain ⟨A, n, c, l, k, s, h1, h2, h3, h4, h5, h6, h7, h8, h9⟩ := h
  have hf0 := h7 0
  have hf1 := h7 1
  have hf2 := h7 2
  have HS := Lib.hid (src_step (m := m + 1) h1 (by omega) h3 h4 h5 h6 h7 h8 h9)
  clear h7 h9
  by_cases hlt : k < n
  · obtain ⟨b, off, x, rfl, hx, hc⟩ := h8.get hlt
    have hx0 := hc 0 (.int .u8 x.toNat) rfl
    simp only [byteE, Nat.mul_one, Nat.add_zero] at hx0
    have hxb := x.toNat_lt
    clear hc hx h8
    go_enter Tryz.func56, Tryz.ntmps56
    go_wp2_with fail
    go_quiet (fail)
    go_wp2_with fail
    go_quiet (fail)
    go_wp2_with fail
    generalize hW : World.setCell (World.setCell _ _ _) _ _ = W
    obtain ⟨HQ0, q0, q1, q2⟩ := HS.out _ _ _ W hW ⟨rfl, rfl, rfl, rfl⟩ rfl
    have HQ := Lib.hid HQ0
    clear HQ0 hW HS h4 h5 h6 hf0 hf1 hf2 hx0
    go_quiet (fail)
    go_wp2
    go_ret
    exact ⟨x.toNat, by omega, rfl, (HQ.out _).1, (HQ.out _).2⟩
  · clear h8
    go_enter Tryz.func56, Tryz.ntmps56
    go_wp2_with fail
    go_quiet (fail)
    go_wp2_with fail
    generalize hW : World.setCell (World.setCell _ _ _) _ _ = W
    obtain ⟨HQ0, q0, q1, q2⟩ := HS.out _ _ _ W hW ⟨rfl, rfl, rfl, rfl⟩ rfl
    have HQ := Lib.hid HQ0
    clear HQ0 hW HS h4 h5 h6 hf0 hf1 hf2
    generalize IntKind.u64.wrap _ = sv at q2
    obtain ⟨r, hr, hand⟩ := u64_and255 (sv / 1099511627776)
    go_quiet (fail)
    go_wp2
    go_ret
    exact ⟨r, hr, rfl, (HQ.out _).1, (HQ.out _).2⟩

set_option maxRecDepth 100000 in
set_option maxHeartbeats 2000000 in
theorem s_pick (g m : Nat) (n : Nat) (w : World) (h : SrcW g m w) (hm : m < 4611686018427387900) (h1 : 1 ≤ n) (hn : n ≤ 65536) :
    Calls Tryz.prog 43 #[.pointer (some ⟨g, 0, none⟩), .int .i64 n] w fun e w' => ∃ r : Nat, r < n ∧ e = .returned (.int .i64 r) ∧ SrcW g (m + 2) w' ∧ Touch (fun k => k = g) w w' := by
  go_enter Tryz.func43, Tryz.ntmps43
  by_cases hn1 : n = 1
  · subst hn1
    go_wp2
    go_ret
    exact ⟨0, by omega, rfl, h.more (by omega), Touch.refl _ _⟩
  · have hn2 : ¬ (n : Int) ≤ 1 := by omega
    go_wp2_with fail
    refine (s_next g m w h (by omega)).mono ?_
    rintro e w1 ⟨r, hr, rfl, hS, hT⟩
    by_cases hbig : 200 < n
    · go_wp2_with fail
      refine (s_next g (m + 1) w1 hS (by omega)).mono ?_
      rintro e w2 ⟨r2, hr2, rfl, hS2, hT2⟩
      go_wp2
      go_ret
      exact ⟨(r * 256 + r2) % n, Nat.mod_lt _ (by omega), ret_int (by push_cast; rfl), hS2, hT.trans hT2⟩
    · go_wp2
      go_ret
      exact ⟨r % n, Nat.mod_lt _ (by omega), ret_int (by push_cast; rfl), hS.more (by omega), hT⟩

set_option maxHeartbeats 1000000 in
theorem s_l00From (A : Option Addr) (n c : Nat) (l : List UInt8) (w : World) (hr : Rd byteE w A n l) (hn : n ≤ 1048576) :
    Calls Tryz.prog 21 #[.slice A n c] w fun e w' => e = .returned (.pointer (some ⟨w.heap.size, 0, none⟩)) ∧ SrcW w.heap.size 0 w' ∧ w'.heap.size = w.heap.size + 1 ∧ Below w.heap.size w w' := by
  have hR := range_new w #[.slice A n c, .int .i64 0, .int .u64 0] 67
  have hS : SrcW w.heap.size 0 (w.alloc (.cells #[.slice A n c, .int .i64 0, .int .u64 0] 67)) :=
    ⟨A, n, c, l, 0, 0, hn, Nat.le_refl _, by simp, hR 0 _ rfl, hR 1 _ rfl, hR 2 _ rfl, fun j => new_free w _ _ j, hr.alloc _, hr.blockLt⟩
  have hb : Below w.heap.size w (w.alloc (.cells #[.slice A n c, .int .i64 0, .int .u64 0] 67)) := (Below.refl _ _).alloc (Nat.le_refl _) _
  have hz : (w.alloc (.cells #[.slice A n c, .int .i64 0, .int .u64 0] 67)).heap.size = w.heap.size + 1 := by simp
  clear hR
  go_enter Tryz.func21, Tryz.ntmps21
  go_wp2
  go_ret
  exact ⟨rfl, hS, hz, hb⟩

end Go.Proofs.YtbdjhecbingcjaaGreatDoor
