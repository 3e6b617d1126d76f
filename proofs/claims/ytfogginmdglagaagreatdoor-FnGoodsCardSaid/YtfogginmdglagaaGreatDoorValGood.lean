/- Good: a list of good ones whose names rise is valid. Printed by a program of mine. -/
import Derived.Test.YtfogginmdglagaaGreatDoorRows
import Derived.Test.YtfogginmdglagaaGreatDoorRGood
import Derived.Test.YtfogginmdglagaaGreatDoorOrd
import Derived.Deep.RegionHeld3
namespace Go.Proofs.YtfogginmdglagaaGreatDoor
set_option linter.unusedVariables false
set_option linter.unusedSimpArgs false
set_option linter.unusedSectionVars false
open Go.RowKit

structure OkGoods (l : List DGood) : Prop where
  ok : ∀ x ∈ l, okGood x = true
  sz : ∀ x ∈ l, x.fId.size ≤ maxLen
  asc : ∀ (j : Nat) (p x : DGood), l[j]? = some p → l[j + 1]? = some x → Op.bytesLess p.fId.toList x.fId.toList = true
  few : l.length ≤ 16
set_option maxRecDepth 100000 in
set_option maxHeartbeats 2000000 in
theorem i_ValidGoods_yes (A : Option Addr) (n c : Nat) (l : List DGood) (w : World) (hr : Rd goodE w A n l) (hok : OkGoods l) :
    Calls Tryz.prog 13 #[.slice A n c] w (RetB true w) := by
  have Hl := Lib.hid hr.1
  have hn : n ≤ 16 := by have := hok.few; have := hr.1; omega
  have HO := Lib.hid hok; clear hok
  go_enter Tryz.func13, Tryz.ntmps13
  go_wp2_with fail
  go_loopw [7] (fun i wr => ∃ k : Nat, k ≤ n ∧ i = .int .i64 k ∧ Below w.heap.size w wr) (fun i _ => n - (intOf i).toNat)
  case atStart => exact ⟨0, Nat.zero_le _, rfl, Below.refl _ _⟩
  case round =>
    obtain ⟨k, hk, rfl, hb⟩ := hrel
    by_cases hlt : k < n
    · obtain ⟨b, off, rfl, hcs⟩ := hr.2 (by omega)
      obtain ⟨x, hx⟩ : ∃ x, l[k]? = some x := ⟨_, List.getElem?_eq_getElem (by have := Hl.out; omega)⟩
      have hcr := range_below (B := 0) (hcs k x hx) hb
      have hc0 := hcr 0 _ rfl
      have hc1 := hcr 1 _ rfl
      have hc2 := hcr 2 _ rfl
      have hc3 := hcr 3 _ rfl
      simp only [goodE, Nat.add_zero] at hc0 hc1 hc2 hc3
      clear hcr
      have HGx := Lib.hid (HO.out.sz x (mem_of_get hx))
      have HV : Hid (∀ W, Calls Tryz.prog 26 #[.agg #[.string x.fId, .int .i64 x.fCount, .int .i64 x.fLeast, .int .i64 x.fPrice]] W (RetB true W)) := Lib.hid (fun W => by have h := i_validGood x W HGx.out; rw [HO.out.ok x (mem_of_get hx)] at h; exact h)
      obtain hk0 | ⟨j, hk0⟩ : k = 0 ∨ ∃ j, k = j + 1 := by cases k with
        | zero => exact .inl rfl
        | succ j => exact .inr ⟨j, rfl⟩
      · subst hk0
        rw [Nat.zero_mul, Nat.add_zero] at hc0 hc1 hc2 hc3
        clear hx hcs
        have hcx := range_new wr #[.string x.fId, .int .i64 x.fCount, .int .i64 x.fLeast, .int .i64 x.fPrice] 27
        have hb0 : Below w.heap.size w (wr.alloc (.cells #[.string x.fId, .int .i64 x.fCount, .int .i64 x.fLeast, .int .i64 x.fPrice] 27)) := hb.alloc hb.size _
        have hba : Below wr.heap.size wr (wr.alloc (.cells #[.string x.fId, .int .i64 x.fCount, .int .i64 x.fLeast, .int .i64 x.fPrice] 27)) := (Below.refl _ _).alloc (Nat.le_refl _) _
        obtain ⟨W0, hW0⟩ : ∃ W0, wr.alloc (.cells #[.string x.fId, .int .i64 x.fCount, .int .i64 x.fLeast, .int .i64 x.fPrice] 27) = W0 := ⟨_, rfl⟩
        go_wp2_with fail
        rw [hW0] at hcx hb0 hba
        have hx0 := hcx 0 _ rfl
        have hx1 := hcx 1 _ rfl
        have hx2 := hcx 2 _ rfl
        have hx3 := hcx 3 _ rfl
        simp only [Nat.zero_add] at hx0 hx1 hx2 hx3
        clear hW0 hcx hc0 hc1 hc2 hc3
        let S : World → Prop := fun w' => w'.cell? ⟨wr.heap.size, 0, none⟩ = some (.string x.fId) ∧ w'.cell? ⟨wr.heap.size, 1, none⟩ = some (.int .i64 x.fCount) ∧ w'.cell? ⟨wr.heap.size, 2, none⟩ = some (.int .i64 x.fLeast) ∧ w'.cell? ⟨wr.heap.size, 3, none⟩ = some (.int .i64 x.fPrice) ∧ Below w.heap.size w w'
        have hS : S (World.drew W0) := ⟨hx0, hx1, hx2, hx3, (hb0).drew⟩
        have hne : Nonempty (Wd S) := ⟨⟨_, hS⟩⟩
        have qc0 : ∀ t : Wd S, t.w.cell? ⟨wr.heap.size, 0, none⟩ = some (.string x.fId) := fun t => t.h.1
        have qc1 : ∀ t : Wd S, t.w.cell? ⟨wr.heap.size, 1, none⟩ = some (.int .i64 x.fCount) := fun t => t.h.2.1
        have qc2 : ∀ t : Wd S, t.w.cell? ⟨wr.heap.size, 2, none⟩ = some (.int .i64 x.fLeast) := fun t => t.h.2.2.1
        have qc3 : ∀ t : Wd S, t.w.cell? ⟨wr.heap.size, 3, none⟩ = some (.int .i64 x.fPrice) := fun t => t.h.2.2.2.1
        have Q9 : Hid (∀ (t : Wd S) (w' : World), Below t.w.heap.size t.w w' → S w') := Lib.hid (fun t w' h => ⟨cell_later h t.h.1, cell_later h t.h.2.1, cell_later h t.h.2.2.1, cell_later h t.h.2.2.2.1, t.h.2.2.2.2.trans (h.mono t.h.2.2.2.2.size)⟩)
        have QE : Hid (∀ w', S w' → w'.cell? ⟨wr.heap.size, 0, none⟩ = some (.string x.fId) ∧ w'.cell? ⟨wr.heap.size, 1, none⟩ = some (.int .i64 x.fCount) ∧ w'.cell? ⟨wr.heap.size, 2, none⟩ = some (.int .i64 x.fLeast) ∧ w'.cell? ⟨wr.heap.size, 3, none⟩ = some (.int .i64 x.fPrice) ∧ Below w.heap.size w w') := Lib.hid (fun w' h => h)
        refine wp_region_class S (by kernel_rfl) (by kernel_rfl) hS ?_
        clear_value S
        repeat (go_big_quiet_step ((first | (go_at_call 26; exact class_call _ (HV.out _) (fun e w' h => ⟨h.1, Q9.out _ _ h.2⟩)))))
        refine wpQuiet_nil ?_
        rintro _ ⟨⟨w1, hw1⟩, rfl⟩
        have hE := QE.out _ hw1
        have hb2 := hE.2.2.2.2
        clear hE
        try dsimp only
        clear hw1 hS hne Q9 QE qc0 qc1 qc2 qc3
        go_wp2
        first | (refine ⟨⟨1, by omega, by go_num, hb2⟩, ?_⟩; (simp [intOf]; omega)) | (go_roundw; (case rel => first | exact ⟨1, by omega, by go_num, hb2⟩ | ((try refine ⟨trivial, ?_⟩); (repeat apply Exists.intro); exact ⟨⟨1, by omega, by go_num, hb2⟩, rfl⟩)); (case measure => (simp [intOf]; omega)))
      · subst hk0
        obtain ⟨p, hp⟩ : ∃ p, l[j]? = some p := ⟨_, List.getElem?_eq_getElem (by have := Hl.out; omega)⟩
        have HP := Lib.hid (range_below (B := 0) (hcs j p hp) hb)
        have hlt' := HO.out.asc j p x hp hx
        clear hx hcs hp
        have hcx := range_new wr #[.string x.fId, .int .i64 x.fCount, .int .i64 x.fLeast, .int .i64 x.fPrice] 27
        have hb0 : Below w.heap.size w (wr.alloc (.cells #[.string x.fId, .int .i64 x.fCount, .int .i64 x.fLeast, .int .i64 x.fPrice] 27)) := hb.alloc hb.size _
        have hba : Below wr.heap.size wr (wr.alloc (.cells #[.string x.fId, .int .i64 x.fCount, .int .i64 x.fLeast, .int .i64 x.fPrice] 27)) := (Below.refl _ _).alloc (Nat.le_refl _) _
        obtain ⟨W0, hW0⟩ : ∃ W0, wr.alloc (.cells #[.string x.fId, .int .i64 x.fCount, .int .i64 x.fLeast, .int .i64 x.fPrice] 27) = W0 := ⟨_, rfl⟩
        go_wp2_with fail
        rw [hW0] at hcx hb0 hba
        have hx0 := hcx 0 _ rfl
        have hx1 := hcx 1 _ rfl
        have hx2 := hcx 2 _ rfl
        have hx3 := hcx 3 _ rfl
        simp only [Nat.zero_add] at hx0 hx1 hx2 hx3
        clear hW0 hcx hc0 hc1 hc2 hc3
        have hp0 := range_below (B := 0) HP.out hba 0 _ rfl
        simp only [goodE, Nat.add_zero] at hp0
        let S : World → Prop := fun w' => w'.cell? ⟨wr.heap.size, 0, none⟩ = some (.string x.fId) ∧ w'.cell? ⟨wr.heap.size, 1, none⟩ = some (.int .i64 x.fCount) ∧ w'.cell? ⟨wr.heap.size, 2, none⟩ = some (.int .i64 x.fLeast) ∧ w'.cell? ⟨wr.heap.size, 3, none⟩ = some (.int .i64 x.fPrice) ∧ w'.cell? ⟨b, off + j * 4, none⟩ = some (.string p.fId) ∧ Below w.heap.size w w'
        have hS : S (World.drew W0) := ⟨hx0, hx1, hx2, hx3, hp0, (hb0).drew⟩
        have hne : Nonempty (Wd S) := ⟨⟨_, hS⟩⟩
        have qc0 : ∀ t : Wd S, t.w.cell? ⟨wr.heap.size, 0, none⟩ = some (.string x.fId) := fun t => t.h.1
        have qc1 : ∀ t : Wd S, t.w.cell? ⟨wr.heap.size, 1, none⟩ = some (.int .i64 x.fCount) := fun t => t.h.2.1
        have qc2 : ∀ t : Wd S, t.w.cell? ⟨wr.heap.size, 2, none⟩ = some (.int .i64 x.fLeast) := fun t => t.h.2.2.1
        have qc3 : ∀ t : Wd S, t.w.cell? ⟨wr.heap.size, 3, none⟩ = some (.int .i64 x.fPrice) := fun t => t.h.2.2.2.1
        have qc4 : ∀ t : Wd S, t.w.cell? ⟨b, off + j * 4, none⟩ = some (.string p.fId) := fun t => t.h.2.2.2.2.1
        have Q9 : Hid (∀ (t : Wd S) (w' : World), Below t.w.heap.size t.w w' → S w') := Lib.hid (fun t w' h => ⟨cell_later h t.h.1, cell_later h t.h.2.1, cell_later h t.h.2.2.1, cell_later h t.h.2.2.2.1, cell_later h t.h.2.2.2.2.1, t.h.2.2.2.2.2.trans (h.mono t.h.2.2.2.2.2.size)⟩)
        have QE : Hid (∀ w', S w' → w'.cell? ⟨wr.heap.size, 0, none⟩ = some (.string x.fId) ∧ w'.cell? ⟨wr.heap.size, 1, none⟩ = some (.int .i64 x.fCount) ∧ w'.cell? ⟨wr.heap.size, 2, none⟩ = some (.int .i64 x.fLeast) ∧ w'.cell? ⟨wr.heap.size, 3, none⟩ = some (.int .i64 x.fPrice) ∧ w'.cell? ⟨b, off + j * 4, none⟩ = some (.string p.fId) ∧ Below w.heap.size w w') := Lib.hid (fun w' h => h)
        refine wp_region_class S (by kernel_rfl) (by kernel_rfl) hS ?_
        clear_value S
        repeat (go_big_quiet_step ((first | (go_at_call 26; exact class_call _ (HV.out _) (fun e w' h => ⟨h.1, Q9.out _ _ h.2⟩)))))
        refine wpQuiet_nil ?_
        rintro _ ⟨⟨w1, hw1⟩, rfl⟩
        have hE := QE.out _ hw1
        have hb2 := hE.2.2.2.2.2
        clear hE
        try dsimp only
        clear hw1 hS hne Q9 QE qc0 qc1 qc2 qc3 qc4
        go_wp2
        first | (refine ⟨⟨j + 2, by omega, by go_num, hb2⟩, ?_⟩; (simp [intOf]; omega)) | (go_roundw; (case rel => first | exact ⟨j + 2, by omega, by go_num, hb2⟩ | ((try refine ⟨trivial, ?_⟩); (repeat apply Exists.intro); exact ⟨⟨j + 2, by omega, by go_num, hb2⟩, rfl⟩)); (case measure => (simp [intOf]; omega)))
    · have hf : decide ((n : Int) ≤ 16) = true := decide_eq_true (by omega)
      go_wp2_with fail
      refine (i_few _ _ _ (by omega) (by omega)).mono ?_
      rintro e w' ⟨rfl, rfl⟩
      go_wp2
      go_ret
      exact ⟨ret_bool (by first | exact hf | (simp; done) | (simp; omega)), hb⟩

end Go.Proofs.YtfogginmdglagaaGreatDoor
