/- The Good list that a law draws. Printed by a program of mine. -/
import Derived.Test.YtfogginmdglagaaGreatDoorRows
import Derived.Test.YtfogginmdglagaaGreatDoorDrawGood
namespace Go.Proofs.YtfogginmdglagaaGreatDoor
set_option linter.unusedVariables false
set_option linter.unusedSimpArgs false
set_option linter.unusedSectionVars false
open Go.RowKit

theorem goodnames_asc : goodnames.Pairwise (fun a b => Op.bytesLess a.toList b.toList = true) := by
  simp only [goodnames, ByteArray.toList_eq]
  decide
theorem goodnames_ok : ∀ s ∈ goodnames, nameB s = true ∧ s.size ≤ maxLen := by
  have hn : ∀ s ∈ goodnames, nameB s = true := by
    simp only [goodnames, nameB, ByteArray.toList_eq]
    decide
  refine fun s hs => ⟨hn s hs, ?_⟩
  have := hn s hs
  unfold nameB at this
  rw [Bool.and_eq_true, Bool.and_eq_true] at this
  have := of_decide_eq_true this.2.2
  unfold maxLen
  omega
theorem GoodList.okAll {l : List DGood} (h : GoodList goodnames l) : OkGoods l where
  ok := fun x hx => by
    have hm : x.fId ∈ goodnames := h.sub.subset (List.mem_map_of_mem hx)
    have hq := h.ok x hx
    have := hq.bCount; have := hq.bLeast; have := hq.bPrice
    unfold okGood
    rw [(goodnames_ok _ hm).1, inB_true (by omega) (by omega), inB_true (by omega) (by omega), inB_true (by omega) (by omega)]
    rfl
  sz := fun x hx => (goodnames_ok _ (h.sub.subset (List.mem_map_of_mem hx))).2
  asc := fun j p x hp hx => by
    have h1 := List.Pairwise.sublist h.sub goodnames_asc
    exact pair_next h1 (by rw [List.getElem?_map, hp]; rfl) (by rw [List.getElem?_map, hx]; rfl)
  few := Nat.le_trans h.len (by decide)
theorem s_R8Goods (A : Option Addr) (n c : Nat) (l : List UInt8) (w : World) (hr : Rd byteE w A n l) (hn : n ≤ 1048576) :
    Calls Tryz.prog 5 #[.slice A n c] w fun e w' => ∃ (A' : Option Addr) (n' c' : Nat) (l' : List DGood), GoodList goodnames l' ∧ l'.length = n' ∧ n' ≤ 5 ∧ e = .returned (.slice A' n' c') ∧ GL goodE 27 w.heap.size w' (.slice A' n' c') l' ∧ Below w.heap.size w w' := by
  go_enter Tryz.func5, Tryz.ntmps5
  go_wp2_with fail
  refine (s_l00From A n c l w hr hn).mono ?_
  rintro e w1 ⟨rfl, hS, hz, hb⟩
  go_wp2_with fail
  refine (s_l26Draw _ 0 w1 hS (by omega)).mono ?_
  rintro e w2 ⟨A', n', c', l', hq, hl, rfl, hg, ht⟩
  have hB := Below.touch hb ht (fun k hk => by omega) hb.size
  have hn5 : n' ≤ 5 := by have := hq.len; rw [hl] at this; exact this
  go_wp2
  go_ret
  exact ⟨A', n', c', l', hq, hl, hn5, rfl, hg.mono hb.size, hB⟩
end Go.Proofs.YtfogginmdglagaaGreatDoor
