/- Rental: a list of good ones whose names rise is valid. Printed by a program of mine. -/
import Derived.Test.YthfedegmplmgfaaGreatDoorRows
import Derived.Test.YthfedegmplmgfaaGreatDoorRRental
import Derived.Test.YthfedegmplmgfaaGreatDoorOrd
import Derived.Deep.RegionHeld3
namespace Go.Proofs.YthfedegmplmgfaaGreatDoor
set_option linter.unusedVariables false
set_option linter.unusedSimpArgs false
set_option linter.unusedSectionVars false
open Go.RowKit

structure OkRentals (l : List DRental) : Prop where
  ok : ∀ x ∈ l, okRental x = true
  sz : ∀ x ∈ l, x.fId.size ≤ maxLen ∧ x.fItem.size ≤ maxLen
  asc : ∀ (j : Nat) (p x : DRental), l[j]? = some p → l[j + 1]? = some x → Op.bytesLess p.fId.toList x.fId.toList = true
  few : l.length ≤ 12
set_option maxRecDepth 100000 in
set_option maxHeartbeats 2000000 in
theorem i_ValidRentals_yes (A : Option Addr) (n c : Nat) (l : List DRental) (w : World) (hr : Rd rentalE w A n l) (hok : OkRentals l) :
    Calls Tryz.prog 10 #[.slice A n c] w (RetB true w) := by
  have Hl := Lib.hid hr.1
  have hn : n ≤ 12 := by have := hok.few; have := hr.1; omega
  have HO := Lib.hid hok; clear hok
  go_enter Tryz.func10, Tryz.ntmps10
  go_wp2_with fail
  go_loopw [7] (fun i wr => ∃ k : Nat, k ≤ n ∧ i = .int .i64 k ∧ Below w.heap.size w wr) (fun i _ => n - (intOf i).toNat)
  case atStart => exact ⟨0, Nat.zero_le _, rfl, Below.refl _ _⟩
  case round =>
    obtain ⟨k, hk, rfl, hb⟩ := hrel
    by_cases hlt : k < n
    · obtain ⟨b, off, rfl, hcs⟩ := hr.2 (by omega)
      obtain ⟨x, hx⟩ : ∃ x, l[k]? = some x := ⟨_, List.getElem?_eq_getElem (by have := Hl.out; omega)⟩
      have hcr := range_below (B := 0) (hcs k x hx) hb
      have hc0 := hcr 0 _ rfl
      have hc1 := hcr 1 _ rfl
      have hc2 := hcr 2 _ rfl
      have hc3 := hcr 3 _ rfl
      have hc4 := hcr 4 _ rfl
      simp only [rentalE, Nat.add_zero] at hc0 hc1 hc2 hc3 hc4
      clear hcr
      have HGx := Lib.hid (HO.out.sz x (mem_of_get hx))
      have HV : Hid (∀ W, Calls Tryz.prog 29 #[.agg #[.string x.fId, .string x.fItem, .int .i64 x.fDay, .int .i64 x.fMonths, .int .i64 x.fFee]] W (RetB true W)) := Lib.hid (fun W => by have h := i_validRental x W HGx.out.1 HGx.out.2; rw [HO.out.ok x (mem_of_get hx)] at h; exact h)
      obtain hk0 | ⟨j, hk0⟩ : k = 0 ∨ ∃ j, k = j + 1 := by cases k with
        | zero => exact .inl rfl
        | succ j => exact .inr ⟨j, rfl⟩
      · subst hk0
        rw [Nat.zero_mul, Nat.add_zero] at hc0 hc1 hc2 hc3 hc4
        clear hx hcs
        have hcx := range_new wr #[.string x.fId, .string x.fItem, .int .i64 x.fDay, .int .i64 x.fMonths, .int .i64 x.fFee] 37
        have hb0 : Below w.heap.size w (wr.alloc (.cells #[.string x.fId, .string x.fItem, .int .i64 x.fDay, .int .i64 x.fMonths, .int .i64 x.fFee] 37)) := hb.alloc hb.size _
        have hba : Below wr.heap.size wr (wr.alloc (.cells #[.string x.fId, .string x.fItem, .int .i64 x.fDay, .int .i64 x.fMonths, .int .i64 x.fFee] 37)) := (Below.refl _ _).alloc (Nat.le_refl _) _
        obtain ⟨W0, hW0⟩ : ∃ W0, wr.alloc (.cells #[.string x.fId, .string x.fItem, .int .i64 x.fDay, .int .i64 x.fMonths, .int .i64 x.fFee] 37) = W0 := ⟨_, rfl⟩
        go_wp2_with fail
        rw [hW0] at hcx hb0 hba
        have hx0 := hcx 0 _ rfl
        have hx1 := hcx 1 _ rfl
        have hx2 := hcx 2 _ rfl
        have hx3 := hcx 3 _ rfl
        have hx4 := hcx 4 _ rfl
        simp only [Nat.zero_add] at hx0 hx1 hx2 hx3 hx4
        clear hW0 hcx hc0 hc1 hc2 hc3 hc4
        let S : World → Prop := fun w' => w'.cell? ⟨wr.heap.size, 0, none⟩ = some (.string x.fId) ∧ w'.cell? ⟨wr.heap.size, 1, none⟩ = some (.string x.fItem) ∧ w'.cell? ⟨wr.heap.size, 2, none⟩ = some (.int .i64 x.fDay) ∧ w'.cell? ⟨wr.heap.size, 3, none⟩ = some (.int .i64 x.fMonths) ∧ w'.cell? ⟨wr.heap.size, 4, none⟩ = some (.int .i64 x.fFee) ∧ Below w.heap.size w w'
        have hS : S (World.drew W0) := ⟨hx0, hx1, hx2, hx3, hx4, (hb0).drew⟩
        have hne : Nonempty (Wd S) := ⟨⟨_, hS⟩⟩
        have qc0 : ∀ t : Wd S, t.w.cell? ⟨wr.heap.size, 0, none⟩ = some (.string x.fId) := fun t => t.h.1
        have qc1 : ∀ t : Wd S, t.w.cell? ⟨wr.heap.size, 1, none⟩ = some (.string x.fItem) := fun t => t.h.2.1
        have qc2 : ∀ t : Wd S, t.w.cell? ⟨wr.heap.size, 2, none⟩ = some (.int .i64 x.fDay) := fun t => t.h.2.2.1
        have qc3 : ∀ t : Wd S, t.w.cell? ⟨wr.heap.size, 3, none⟩ = some (.int .i64 x.fMonths) := fun t => t.h.2.2.2.1
        have qc4 : ∀ t : Wd S, t.w.cell? ⟨wr.heap.size, 4, none⟩ = some (.int .i64 x.fFee) := fun t => t.h.2.2.2.2.1
        have Q9 : Hid (∀ (t : Wd S) (w' : World), Below t.w.heap.size t.w w' → S w') := Lib.hid (fun t w' h => ⟨cell_later h t.h.1, cell_later h t.h.2.1, cell_later h t.h.2.2.1, cell_later h t.h.2.2.2.1, cell_later h t.h.2.2.2.2.1, t.h.2.2.2.2.2.trans (h.mono t.h.2.2.2.2.2.size)⟩)
        have QE : Hid (∀ w', S w' → w'.cell? ⟨wr.heap.size, 0, none⟩ = some (.string x.fId) ∧ w'.cell? ⟨wr.heap.size, 1, none⟩ = some (.string x.fItem) ∧ w'.cell? ⟨wr.heap.size, 2, none⟩ = some (.int .i64 x.fDay) ∧ w'.cell? ⟨wr.heap.size, 3, none⟩ = some (.int .i64 x.fMonths) ∧ w'.cell? ⟨wr.heap.size, 4, none⟩ = some (.int .i64 x.fFee) ∧ Below w.heap.size w w') := Lib.hid (fun w' h => h)
        refine wp_region_class S (by kernel_rfl) (by kernel_rfl) hS ?_
        clear_value S
        repeat (go_big_quiet_step ((first | (go_at_call 29; exact class_call _ (HV.out _) (fun e w' h => ⟨h.1, Q9.out _ _ h.2⟩)))))
        refine wpQuiet_nil ?_
        rintro _ ⟨⟨w1, hw1⟩, rfl⟩
        have hE := QE.out _ hw1
        have hb2 := hE.2.2.2.2.2
        clear hE
        try dsimp only
        clear hw1 hS hne Q9 QE qc0 qc1 qc2 qc3 qc4
        go_wp2
        first | (refine ⟨⟨1, by omega, by go_num, hb2⟩, ?_⟩; (simp [intOf]; omega)) | (go_roundw; (case rel => first | exact ⟨1, by omega, by go_num, hb2⟩ | ((try refine ⟨trivial, ?_⟩); (repeat apply Exists.intro); exact ⟨⟨1, by omega, by go_num, hb2⟩, rfl⟩)); (case measure => (simp [intOf]; omega)))
      · subst hk0
        obtain ⟨p, hp⟩ : ∃ p, l[j]? = some p := ⟨_, List.getElem?_eq_getElem (by have := Hl.out; omega)⟩
        have HP := Lib.hid (range_below (B := 0) (hcs j p hp) hb)
        have hlt' := HO.out.asc j p x hp hx
        clear hx hcs hp
        have hcx := range_new wr #[.string x.fId, .string x.fItem, .int .i64 x.fDay, .int .i64 x.fMonths, .int .i64 x.fFee] 37
        have hb0 : Below w.heap.size w (wr.alloc (.cells #[.string x.fId, .string x.fItem, .int .i64 x.fDay, .int .i64 x.fMonths, .int .i64 x.fFee] 37)) := hb.alloc hb.size _
        have hba : Below wr.heap.size wr (wr.alloc (.cells #[.string x.fId, .string x.fItem, .int .i64 x.fDay, .int .i64 x.fMonths, .int .i64 x.fFee] 37)) := (Below.refl _ _).alloc (Nat.le_refl _) _
        obtain ⟨W0, hW0⟩ : ∃ W0, wr.alloc (.cells #[.string x.fId, .string x.fItem, .int .i64 x.fDay, .int .i64 x.fMonths, .int .i64 x.fFee] 37) = W0 := ⟨_, rfl⟩
        go_wp2_with fail
        rw [hW0] at hcx hb0 hba
        have hx0 := hcx 0 _ rfl
        have hx1 := hcx 1 _ rfl
        have hx2 := hcx 2 _ rfl
        have hx3 := hcx 3 _ rfl
        have hx4 := hcx 4 _ rfl
        simp only [Nat.zero_add] at hx0 hx1 hx2 hx3 hx4
        clear hW0 hcx hc0 hc1 hc2 hc3 hc4
        have hp0 := range_below (B := 0) HP.out hba 0 _ rfl
        simp only [rentalE, Nat.add_zero] at hp0
        let S : World → Prop := fun w' => w'.cell? ⟨wr.heap.size, 0, none⟩ = some (.string x.fId) ∧ w'.cell? ⟨wr.heap.size, 1, none⟩ = some (.string x.fItem) ∧ w'.cell? ⟨wr.heap.size, 2, none⟩ = some (.int .i64 x.fDay) ∧ w'.cell? ⟨wr.heap.size, 3, none⟩ = some (.int .i64 x.fMonths) ∧ w'.cell? ⟨wr.heap.size, 4, none⟩ = some (.int .i64 x.fFee) ∧ w'.cell? ⟨b, off + j * 5, none⟩ = some (.string p.fId) ∧ Below w.heap.size w w'
        have hS : S (World.drew W0) := ⟨hx0, hx1, hx2, hx3, hx4, hp0, (hb0).drew⟩
        have hne : Nonempty (Wd S) := ⟨⟨_, hS⟩⟩
        have qc0 : ∀ t : Wd S, t.w.cell? ⟨wr.heap.size, 0, none⟩ = some (.string x.fId) := fun t => t.h.1
        have qc1 : ∀ t : Wd S, t.w.cell? ⟨wr.heap.size, 1, none⟩ = some (.string x.fItem) := fun t => t.h.2.1
        have qc2 : ∀ t : Wd S, t.w.cell? ⟨wr.heap.size, 2, none⟩ = some (.int .i64 x.fDay) := fun t => t.h.2.2.1
        have qc3 : ∀ t : Wd S, t.w.cell? ⟨wr.heap.size, 3, none⟩ = some (.int .i64 x.fMonths) := fun t => t.h.2.2.2.1
        have qc4 : ∀ t : Wd S, t.w.cell? ⟨wr.heap.size, 4, none⟩ = some (.int .i64 x.fFee) := fun t => t.h.2.2.2.2.1
        have qc5 : ∀ t : Wd S, t.w.cell? ⟨b, off + j * 5, none⟩ = some (.string p.fId) := fun t => t.h.2.2.2.2.2.1
        have Q9 : Hid (∀ (t : Wd S) (w' : World), Below t.w.heap.size t.w w' → S w') := Lib.hid (fun t w' h => ⟨cell_later h t.h.1, cell_later h t.h.2.1, cell_later h t.h.2.2.1, cell_later h t.h.2.2.2.1, cell_later h t.h.2.2.2.2.1, cell_later h t.h.2.2.2.2.2.1, t.h.2.2.2.2.2.2.trans (h.mono t.h.2.2.2.2.2.2.size)⟩)
        have QE : Hid (∀ w', S w' → w'.cell? ⟨wr.heap.size, 0, none⟩ = some (.string x.fId) ∧ w'.cell? ⟨wr.heap.size, 1, none⟩ = some (.string x.fItem) ∧ w'.cell? ⟨wr.heap.size, 2, none⟩ = some (.int .i64 x.fDay) ∧ w'.cell? ⟨wr.heap.size, 3, none⟩ = some (.int .i64 x.fMonths) ∧ w'.cell? ⟨wr.heap.size, 4, none⟩ = some (.int .i64 x.fFee) ∧ w'.cell? ⟨b, off + j * 5, none⟩ = some (.string p.fId) ∧ Below w.heap.size w w') := Lib.hid (fun w' h => h)
        refine wp_region_class S (by kernel_rfl) (by kernel_rfl) hS ?_
        clear_value S
        repeat (go_big_quiet_step ((first | (go_at_call 29; exact class_call _ (HV.out _) (fun e w' h => ⟨h.1, Q9.out _ _ h.2⟩)))))
        refine wpQuiet_nil ?_
        rintro _ ⟨⟨w1, hw1⟩, rfl⟩
        have hE := QE.out _ hw1
        have hb2 := hE.2.2.2.2.2.2
        clear hE
        try dsimp only
        clear hw1 hS hne Q9 QE qc0 qc1 qc2 qc3 qc4 qc5
        go_wp2
        first | (refine ⟨⟨j + 2, by omega, by go_num, hb2⟩, ?_⟩; (simp [intOf]; omega)) | (go_roundw; (case rel => first | exact ⟨j + 2, by omega, by go_num, hb2⟩ | ((try refine ⟨trivial, ?_⟩); (repeat apply Exists.intro); exact ⟨⟨j + 2, by omega, by go_num, hb2⟩, rfl⟩)); (case measure => (simp [intOf]; omega)))
    · have hf : decide ((n : Int) ≤ 12) = true := decide_eq_true (by omega)
      go_wp2_with fail
      refine (i_few _ _ _ (by omega) (by omega)).mono ?_
      rintro e w' ⟨rfl, rfl⟩
      go_wp2
      go_ret
      exact ⟨ret_bool (by first | exact hf | (simp; done) | (simp; omega)), hb⟩

end Go.Proofs.YthfedegmplmgfaaGreatDoor
