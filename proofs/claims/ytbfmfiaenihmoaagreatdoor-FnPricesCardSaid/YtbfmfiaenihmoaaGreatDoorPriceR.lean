/- The quotes that a law draws. -/
import Derived.Test.YtbfmfiaenihmoaaGreatDoorRows
import Derived.Test.YtbfmfiaenihmoaaGreatDoorPriceL
namespace Go.Proofs.YtbfmfiaenihmoaaGreatDoor
set_option linter.unusedVariables false
set_option linter.unusedSimpArgs false
set_option linter.unusedSectionVars false
open Go.RowKit

theorem qnames_asc : qnames.Pairwise (fun a b => Op.bytesLess a.toList b.toList = true) := by
  simp only [qnames, ByteArray.toList_eq]
  decide
theorem pair_next {α : Type} {R : α → α → Prop} {l : List α} (h : l.Pairwise R) {j : Nat} {p x : α} (hp : l[j]? = some p) (hx : l[j + 1]? = some x) : R p x := by
  obtain ⟨h1, rfl⟩ := List.getElem?_eq_some_iff.1 hp
  obtain ⟨h2, rfl⟩ := List.getElem?_eq_some_iff.1 hx
  exact List.pairwise_iff_getElem.1 h j (j + 1) h1 h2 (by omega)
theorem qnames_ok : ∀ s ∈ qnames, nameB s = true ∧ s.size ≤ maxLen := by
  have hn : ∀ s ∈ qnames, nameB s = true := by
    simp only [qnames, nameB, ByteArray.toList_eq]
    decide
  refine fun s hs => ⟨hn s hs, ?_⟩
  have := hn s hs
  unfold nameB at this
  rw [Bool.and_eq_true, Bool.and_eq_true] at this
  have := of_decide_eq_true this.2.2
  unfold maxLen
  omega
theorem QList.okAll {l : List DQuote} (h : QList qnames l) : OkQuotes l where
  ok := fun x hx => by
    have hm : x.fId ∈ qnames := h.sub.subset (List.mem_map_of_mem hx)
    have hq := h.ok x hx
    have := hq.h; have := hq.r; have := hq.m; have := hq.g
    unfold okQuote
    rw [(qnames_ok _ hm).1, inB_true (by omega) (by omega), inB_true (by omega) (by omega), inB_true (by omega) (by omega), inB_true (by omega) (by omega)]
    rfl
  sz := fun x hx => (qnames_ok _ (h.sub.subset (List.mem_map_of_mem hx))).2
  asc := fun j p x hp hx => by
    have h1 := List.Pairwise.sublist h.sub qnames_asc
    exact pair_next h1 (by rw [List.getElem?_map, hp]; rfl) (by rw [List.getElem?_map, hx]; rfl)
  few := Nat.le_trans h.len (by decide)
theorem s_R8Quotes (A : Option Addr) (n c : Nat) (l : List UInt8) (w : World) (hr : Rd byteE w A n l) (hn : n ≤ 1048576) :
    Calls Tryz.prog 5 #[.slice A n c] w fun e w' => ∃ (A' : Option Addr) (n' c' : Nat) (l' : List DQuote), OkQuotes l' ∧ l'.length = n' ∧ n' ≤ 5 ∧ e = .returned (.slice A' n' c') ∧ Rd quoteE w' A' n' l' ∧ Below w.heap.size w w' := by
  go_enter Tryz.func5, Tryz.ntmps5
  go_wp2_with fail
  refine (s_l00From A n c l w hr hn).mono ?_
  rintro e w1 ⟨rfl, hS, hz, hb⟩
  go_wp2_with fail
  refine (s_l24Draw _ 0 w1 hS (by omega)).mono ?_
  rintro e w2 ⟨A', n', c', l', hq, hl, rfl, hg, ht⟩
  have hB := Below.touch hb ht (fun k hk => by omega) hb.size
  have hn5 : n' ≤ 5 := by have := hq.len; rw [hl] at this; exact this
  have hrd := hg.rd
  clear hg ht hS hb
  go_wp2
  go_ret
  exact ⟨A', n', c', l', hq.okAll, hl, hn5, rfl, hrd, hB⟩
end Go.Proofs.YtbfmfiaenihmoaaGreatDoor
