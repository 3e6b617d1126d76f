/- The Rental list that a law draws. Printed by a program of mine. -/
import Derived.Test.YthfedegmplmgfaaGreatDoorRows
import Derived.Test.YthfedegmplmgfaaGreatDoorDrawRental
import Derived.Test.YthfedegmplmgfaaGreatDoorRentLaw
namespace Go.Proofs.YthfedegmplmgfaaGreatDoor
set_option linter.unusedVariables false
set_option linter.unusedSimpArgs false
set_option linter.unusedSectionVars false
open Go.RowKit

theorem rentalnames_asc : rentalnames.Pairwise (fun a b => Op.bytesLess a.toList b.toList = true) := by
  simp only [rentalnames, ByteArray.toList_eq]
  decide
theorem rentalnames_ok : ∀ s ∈ rentalnames, nameB s = true ∧ s.size ≤ maxLen := by
  have hn : ∀ s ∈ rentalnames, nameB s = true := by
    simp only [rentalnames, nameB, ByteArray.toList_eq]
    decide
  refine fun s hs => ⟨hn s hs, ?_⟩
  have := hn s hs
  unfold nameB at this
  rw [Bool.and_eq_true, Bool.and_eq_true] at this
  have := of_decide_eq_true this.2.2
  unfold maxLen
  omega
theorem rentalitems_ok : ∀ s ∈ rentalitems, nameB s = true ∧ s.size ≤ maxLen := by
  have hn : ∀ s ∈ rentalitems, nameB s = true := by
    simp only [rentalitems, nameB, ByteArray.toList_eq]
    decide
  refine fun s hs => ⟨hn s hs, ?_⟩
  have := hn s hs
  unfold nameB at this
  rw [Bool.and_eq_true, Bool.and_eq_true] at this
  have := of_decide_eq_true this.2.2
  unfold maxLen
  omega
theorem RentalList.small {l : List DRental} (h : RentalList rentalnames l) : ∀ x ∈ l, RB x := fun x hx => by
  have hq := h.ok x hx
  have := hq.bDay; have := hq.bMonths; have := hq.bFee
  exact ⟨by omega, by omega, by omega, by omega, by omega, by omega⟩
theorem RentalList.okAll {l : List DRental} (h : RentalList rentalnames l) : OkRentals l where
  ok := fun x hx => by
    have hm : x.fId ∈ rentalnames := h.sub.subset (List.mem_map_of_mem hx)
    have hq := h.ok x hx
    have := hq.bDay; have := hq.bMonths; have := hq.bFee
    unfold okRental okRental5
    rw [(rentalnames_ok _ hm).1, (rentalitems_ok _ hq.bItem).1, inB_true (by omega) (by omega), inB_true (by omega) (by omega), inB_true (by omega) (by omega)]
    rfl
  sz := fun x hx => ⟨(rentalnames_ok _ (h.sub.subset (List.mem_map_of_mem hx))).2, (rentalitems_ok _ (h.ok x hx).bItem).2⟩
  asc := fun j p x hp hx => by
    have h1 := List.Pairwise.sublist h.sub rentalnames_asc
    exact pair_next h1 (by rw [List.getElem?_map, hp]; rfl) (by rw [List.getElem?_map, hx]; rfl)
  few := Nat.le_trans h.len (by decide)
/-- a rental's text is read back -/
theorem rental_back {x : DRental} (h : okRental x = true) : rentalO (rentalText x) = some x := by
  have hn := okRental_names _ _ _ _ _ h
  have hr := okRental_range _ _ _ _ _ h
  have hc : cutsL 32 (rentalText x).data.toList = [x.fId.data.toList, x.fItem.data.toList, textL [x.fDay, x.fMonths, x.fFee]] := by
    unfold rentalText
    rw [text3_data h]
    refine cuts_join (by simp) fun y hy => ?_
    simp only [List.mem_cons, List.mem_nil_iff, or_false] at hy
    rcases hy with rfl | rfl | rfl
    · exact (name_noblank hn.1).1
    · exact (name_noblank hn.2).1
    · exact textL_noblank hr
  have ho := o3_cuts (ok := okRental5) hc (list_text hr (by simp))
  rw [ofL_self, ofL_self, if_pos (show okRental5 x.fId x.fItem x.fDay x.fMonths x.fFee = true from h)] at ho
  exact rentalO_is ho
theorem rental_text_le {x : DRental} (h : okRental x = true) : (rentalText x).size ≤ 2000 := by
  have hn := okRental_names _ _ _ _ _ h
  have hr := okRental_range _ _ _ _ _ h
  have s1 := rental_name_size hn.1
  have s2 := rental_name_size hn.2
  have e : rentalText x = x.fId ++ ⟨#[32]⟩ ++ (x.fItem ++ ⟨#[32]⟩ ++ ofL (textL [x.fDay, x.fMonths, x.fFee])) := by unfold rentalText text3; exact if_pos h
  rw [e, ba_app_size, ba_app_size, ba_app_size, ba_app_size, ofL_size]
  have := textL_len hr (by simp)
  show _ + 1 + (_ + 1 + _) ≤ _
  omega
theorem s_R8Rentals (A : Option Addr) (n c : Nat) (l : List UInt8) (w : World) (hr : Rd byteE w A n l) (hn : n ≤ 1048576) :
    Calls Tryz.prog 5 #[.slice A n c] w fun e w' => ∃ (A' : Option Addr) (n' c' : Nat) (l' : List DRental), RentalList rentalnames l' ∧ l'.length = n' ∧ n' ≤ 5 ∧ e = .returned (.slice A' n' c') ∧ GL rentalE 37 w.heap.size w' (.slice A' n' c') l' ∧ Below w.heap.size w w' := by
  go_enter Tryz.func5, Tryz.ntmps5
  go_wp2_with fail
  refine (s_l00From A n c l w hr hn).mono ?_
  rintro e w1 ⟨rfl, hS, hz, hb⟩
  go_wp2_with fail
  refine (s_l21Draw _ 0 w1 hS (by omega)).mono ?_
  rintro e w2 ⟨A', n', c', l', hq, hl, rfl, hg, ht⟩
  have hB := Below.touch hb ht (fun k hk => by omega) hb.size
  have hn5 : n' ≤ 5 := by have := hq.len; rw [hl] at this; exact this
  go_wp2
  go_ret
  exact ⟨A', n', c', l', hq, hl, hn5, rfl, hg.mono hb.size, hB⟩
end Go.Proofs.YthfedegmplmgfaaGreatDoor
