/- slices.Chunk over texts, and the program's PagesOf over it. -/
import Derived.RangeFuncNested
import Derived.RangeFuncBound
import Derived.RangeFuncCalls
import Derived.RangeFuncLeaves
import Derived.RangeFuncBox
import Derived.Shelf.Abstract
import Derived.Shelf.RegionOpen
import Derived.WalkKit
import Derived.OwnWalkIn
import Derived.TacticsInMore
import Derived.LoopNIn
import Derived.LoopIn
import Derived.Test.YtlnhjjcficoldaaRows
import Derived.Test.YtlnhjjcficoldaaArr
import Derived.Test.YtlnhjjcficoldaaPagesS
namespace Go.Proofs.Ytlnhjjcficoldaa
set_option linter.unusedVariables false
set_option linter.unusedSimpArgs false
set_option linter.unusedSectionVars false
open Go.RowKit Go.Shelf
attribute [local go_sem] Oper.semAt_some

/-- a part of a list that was there: what a round is handed -/
structure Chk (w : World) (m : Nat) where
  a : Option Addr
  n : Nat
  l : List ByteArray
  rd : Rd strE w a n l
  pos : 1 ≤ n
  le : n ≤ m
def chunkAt (m : Nat) (L : List ByteArray) (q : Nat) : List ByteArray := (L.drop (q * m)).take m
theorem pageCount_stop {m q N : Nat} (hm : 1 ≤ m) (h1 : N ≤ q * m) (h2 : q = 0 ∨ q * m < N + m) : pageCount m N = q := by
  unfold pageCount
  refine Nat.div_eq_of_lt_le ?_ ?_
  · rcases h2 with rfl | h2
    · omega
    · omega
  · rw [Nat.add_mul]; omega
/-- what a round leaves: what lay ahead of the call, and the two boxes that the walk through the chunks reads -/
def KpC (n₀ Bs Bm : Nat) (A B : World) : Prop := Below n₀ A B ∧ B.cell? ⟨Bs, 0, none⟩ = A.cell? ⟨Bs, 0, none⟩ ∧ B.cell? ⟨Bm, 0, none⟩ = A.cell? ⟨Bm, 0, none⟩
theorem KpC.refl (n₀ Bs Bm : Nat) (A : World) : KpC n₀ Bs Bm A A := ⟨Below.refl _ _, rfl, rfl⟩
theorem KpC.trans {n₀ Bs Bm : Nat} {A B C : World} (h : KpC n₀ Bs Bm A B) (k : KpC n₀ Bs Bm B C) : KpC n₀ Bs Bm A C := ⟨h.1.trans k.1, k.2.1.trans h.2.1, k.2.2.trans h.2.2⟩

set_option maxRecDepth 100000 in
set_option maxHeartbeats 4000000 in
theorem chunk1_in (F : Fence) (z : Nat) (h25 : F.fn 25) (hro : F.round = none) (hz : 1 ≤ z) (lp Bs Bm N c m : Nat) (A : Option Addr) (ss : List ByteArray) (w0 : World) (hr : Rd strE w0 A N ss) (hN : N ≤ 200) (hm1 : 1 ≤ m) (hm2 : m ≤ 199)
    (J Jx : List (Chk w0 m) → World → Prop) (hJd : ∀ s W, J s W → J s W.drew) (hNc : N ≤ c)
    (hY : ∀ pre (x : Chk w0 m) W, J pre W → pre.length < N → YieldAt F (z - 1) Try.prog lp #[.slice x.a x.n x.n] W fun e W' =>
      (e = .returned (.bool true) ∧ J (pre ++ [x]) W' ∧ KpC w0.heap.size Bs Bm W W') ∨ (e = .returned (.bool false) ∧ Jx (pre ++ [x]) W'))
    (W : World) (hBs : W.cell? ⟨Bs, 0, none⟩ = some (.slice A N c)) (hBm : W.cell? ⟨Bm, 0, none⟩ = some (.int .i64 m)) (h0 : J [] W) :
    CallsIn F z Try.prog 25 #[.func (.yield lp) #[] #[], .pointer (some ⟨Bs, 0, none⟩), .pointer (some ⟨Bm, 0, none⟩)] W fun e W' => (∃ v, e = .returned v) ∧
      ((∃ ys : List (Chk w0 m), (ys.map Chk.l = (List.range (pageCount m N)).map (chunkAt m ss)) ∧ J ys W') ∨ (∃ pre, True ∧ Jx pre W')) := by
  refine callsIn_of_wp Try.func25 rfl h25 ?_ hro
  simp only [Try.ntmps25, List.size_toArray, List.length_cons, List.length_nil, Nat.reduceAdd, Nat.reduceSub, Array.replicate_succ, Array.replicate_zero, List.push_toArray, List.append_toArray, List.nil_append, List.cons_append]
  gi_wp2
  gi_loopw [4] (fun i wr => ∃ (k q : Nat) (pre : List (Chk w0 m)), i = .int .i64 k ∧ k < N + m ∧ Hid (k = q * m) ∧ Hid (pre.map Chk.l = (List.range q).map (chunkAt m ss)) ∧ J pre wr ∧ KpC w0.heap.size Bs Bm W wr)
    (fun i _ => N - (intOf i).toNat)
  case atStart => exact ⟨0, 0, [], rfl, by omega, Lib.hid (by omega), Lib.hid rfl, h0, KpC.refl _ _ _ _⟩
  case round =>
    obtain ⟨k, q, pre, rfl, hkN, HK, HP, hJs, hnx⟩ := hrel
    have hbs := hnx.2.1.trans hBs
    have hbm := hnx.2.2.trans hBm
    by_cases hlt : k < N
    · obtain ⟨b, off, hA, hc⟩ := hr.2 (by omega)
      subst hA
      have hql : pre.length = q := by have h1 := congrArg List.length HP.out; simpa using h1
      have hpl : pre.length < N := by
        have h2 : q * 1 ≤ q * m := Nat.mul_le_mul_left _ hm1
        have h3 := HK.out
        omega
      by_cases hfull : k + m ≤ N
      · have hd := (hr.drop k hlt).take m (by omega)
        simp only [strE, Nat.mul_one] at hd
        have hmn : min (m : Int) ((N - k : Nat) : Int) = (m : Int) := by omega
        have hJ1 := hJd _ _ hJs
        have hbs1 : wr.drew.cell? ⟨Bs, 0, none⟩ = some (.slice (some ⟨b, off, none⟩) N c) := hbs
        have hbm1 : wr.drew.cell? ⟨Bm, 0, none⟩ = some (.int .i64 m) := hbm
        obtain ⟨fn, tmps, assign, body, hy, hR⟩ := hY pre ⟨_, _, _, hd, hm1, Nat.le_refl _⟩ wr.drew hJ1 hpl
        dsimp only at hy
        clear hc
        gi_wp2
        gi_region
        all_goals
          gi_wp2
          refine hR.mono ?_
          rintro e W3 (⟨rfl, hJ3, hk3⟩ | ⟨rfl, hJx3⟩)
          · have hbm3 := hk3.2.2.trans hbm1
            gi_wp2
            go_roundw
            case rel => exact ⟨k + m, q + 1, _, by go_num, by omega, Lib.hid (by have h9 := HK.out; rw [Nat.add_mul]; omega), Lib.hid (by rw [List.map_append, HP.out, List.range_succ, List.map_append]; unfold chunkAt; simp only [List.map_cons, List.map_nil]; rw [← HK.out]), hJ3, KpC.trans ⟨hnx.1.drew, hnx.2.1, hnx.2.2⟩ hk3⟩
            case measure => simp [intOf]; omega
          · gi_wp2
            refine bodyPost_ret (results_none rfl _ _ _) rfl ?_
            exact ⟨⟨_, rfl⟩, .inr ⟨_, trivial, hJx3⟩⟩
      · skip
        have hd := hr.drop k hlt
        simp only [strE, Nat.mul_one] at hd
        have hmn : min (m : Int) ((N - k : Nat) : Int) = ((N - k : Nat) : Int) := by omega
        have hJ1 := hJd _ _ hJs
        have hbs1 : wr.drew.cell? ⟨Bs, 0, none⟩ = some (.slice (some ⟨b, off, none⟩) N c) := hbs
        have hbm1 : wr.drew.cell? ⟨Bm, 0, none⟩ = some (.int .i64 m) := hbm
        obtain ⟨fn, tmps, assign, body, hy, hR⟩ := hY pre ⟨_, _, _, hd, by omega, by omega⟩ wr.drew hJ1 hpl
        dsimp only at hy
        clear hc
        gi_wp2
        gi_region
        all_goals
          gi_wp2
          refine hR.mono ?_
          rintro e W3 (⟨rfl, hJ3, hk3⟩ | ⟨rfl, hJx3⟩)
          · have hbm3 := hk3.2.2.trans hbm1
            gi_wp2
            go_roundw
            case rel => exact ⟨k + m, q + 1, _, by go_num, by omega, Lib.hid (by have h9 := HK.out; rw [Nat.add_mul]; omega), Lib.hid (by rw [List.map_append, HP.out, List.range_succ, List.map_append]; unfold chunkAt; simp only [List.map_cons, List.map_nil]; rw [← HK.out]; rw [List.take_of_length_le (by rw [List.length_drop, hr.1]; omega)]), hJ3, KpC.trans ⟨hnx.1.drew, hnx.2.1, hnx.2.2⟩ hk3⟩
            case measure => simp [intOf]; omega
          · gi_wp2
            refine bodyPost_ret (results_none rfl _ _ _) rfl ?_
            exact ⟨⟨_, rfl⟩, .inr ⟨_, trivial, hJx3⟩⟩
    · have hst := pageCount_stop (N := N) (q := q) hm1 (by have h9 := HK.out; omega) (by have h9 := HK.out; exact .inr (by omega))
      gi_wp2
      go_end0
      exact ⟨⟨_, rfl⟩, .inl ⟨pre, by rw [hst]; exact HP.out, hJs⟩⟩
end Go.Proofs.Ytlnhjjcficoldaa
