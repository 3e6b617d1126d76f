/- Which lists of rentals are valid: both sides. Printed by a program of mine. -/
import Derived.Test.YtndbppplkfpgnaaDoorRows
import Derived.Test.YtndbppplkfpgnaaDoorRRental
import Derived.Test.YtndbppplkfpgnaaDoorOrd
namespace Go.Proofs.YtndbppplkfpgnaaDoor
set_option linter.unusedVariables false
set_option linter.unusedSimpArgs false
set_option linter.unusedSectionVars false
open Go.RowKit

def rentB (l : List DRental) : Bool := chainB okRental (fun x y => Op.bytesLess x.fId.toList y.fId.toList) none l && decide ((l.length : Int) ≤ 12)
theorem rent_mem {l : List DRental} (h : rentB l = true) : (∀ x ∈ l, okRental x = true) ∧ l.length ≤ 12 := by
  unfold rentB at h
  rw [Bool.and_eq_true, decide_eq_true_eq] at h
  have chain : ∀ {l : List DRental} {o : Option DRental}, chainB okRental (fun x y => Op.bytesLess x.fId.toList y.fId.toList) o l = true → ∀ x ∈ l, okRental x = true := by
    intro l
    induction l with
    | nil => intro o _ x hx; cases hx
    | cons y t ih =>
      intro o h x hx
      have h2 : okRental y = true ∧ chainB okRental (fun x y => Op.bytesLess x.fId.toList y.fId.toList) (some y) t = true := by
        cases o with
        | none => simpa [chainB, Bool.and_eq_true] using h
        | some z => simp only [chainB, Bool.and_eq_true] at h; exact ⟨h.1, h.2.2⟩
      rcases List.mem_cons.1 hx with rfl | hx
      · exact h2.1
      · exact ih h2.2 x hx
  exact ⟨chain h.1, by omega⟩

def RC (l : List DRental) (k : Nat) : Prop := chainB okRental (fun x y => Op.bytesLess x.fId.toList y.fId.toList) none l = chainB okRental (fun x y => Op.bytesLess x.fId.toList y.fId.toList) (prevOf l k) (l.drop k)
theorem rc_zero (l : List DRental) : RC l 0 := rfl
theorem rc_bad {l : List DRental} {k : Nat} {x : DRental} (h : RC l k) (hx : l[k]? = some x) (hb : okRental x = false) : rentB l = false := by
  unfold RC at h
  unfold rentB
  rw [h]
  rcases k with _ | j
  · rw [chain_first hx, hb, Bool.false_and, Bool.false_and]
  · obtain ⟨p, hp⟩ : ∃ p, l[j]? = some p := ⟨_, List.getElem?_eq_getElem (by have := (List.getElem?_eq_some_iff.1 hx).1; omega)⟩
    rw [chain_next hp hx, hb, Bool.false_and, Bool.false_and]
theorem rc_first {l : List DRental} {x : DRental} (h : RC l 0) (hx : l[0]? = some x) (hb : okRental x = true) : RC l 1 := by
  unfold RC at h ⊢
  rw [h, chain_first hx, hb, Bool.true_and]
theorem rc_badlt {l : List DRental} {j : Nat} {p x : DRental} (h : RC l (j + 1)) (hp : l[j]? = some p) (hx : l[j + 1]? = some x) (hlt : Op.bytesLess p.fId.toList x.fId.toList = false) : rentB l = false := by
  unfold RC at h
  unfold rentB
  rw [h, chain_next hp hx, hlt, Bool.false_and, Bool.and_false, Bool.false_and]
theorem rc_next {l : List DRental} {j : Nat} {p x : DRental} (h : RC l (j + 1)) (hp : l[j]? = some p) (hx : l[j + 1]? = some x) (hb : okRental x = true) (hlt : Op.bytesLess p.fId.toList x.fId.toList = true) : RC l (j + 2) := by
  unfold RC at h ⊢
  rw [h, chain_next hp hx, hb, hlt, Bool.true_and, Bool.true_and]
theorem rc_end {l : List DRental} {n : Nat} (h : RC l n) (hl : l.length = n) : rentB l = decide ((n : Int) ≤ 12) := by
  unfold RC at h
  unfold rentB
  rw [h, List.drop_of_length_le (by omega), hl]
  cases prevOf l n <;> simp [chainB]

set_option maxRecDepth 100000 in
set_option maxHeartbeats 2000000 in
theorem s_l21Ok (A : Option Addr) (n c : Nat) (l : List DRental) (w : World) (hr : Rd rentalE w A n l) (hn : n ≤ maxLen) (hg : ∀ x ∈ l, x.good) :
    Calls Tryd.prog 14 #[.slice A n c] w (RetB (rentB l) w) := by
  unfold maxLen at hn
  have Hl := Lib.hid hr.1
  have HG := Lib.hid hg; clear hg
  go_enter Tryd.func14, Tryd.ntmps14
  go_wp2_with fail
  go_loopw [3] (fun i wr => ∃ k : Nat, k ≤ n ∧ i = .int .i64 k ∧ Below w.heap.size w wr ∧ Hid (RC l k)) (fun i _ => n - (intOf i).toNat)
  case atStart => exact ⟨0, Nat.zero_le _, rfl, Below.refl _ _, Lib.hid (rc_zero l)⟩
  case round =>
    obtain ⟨k, hk, rfl, hb, HH⟩ := hrel
    by_cases hlt : k < n
    · obtain ⟨b, off, rfl, hcs⟩ := hr.2 (by omega)
      obtain ⟨x, hx⟩ : ∃ x, l[k]? = some x := ⟨_, List.getElem?_eq_getElem (by have := Hl.out; omega)⟩
      have HXR := Lib.hid (range_below (B := 0) (hcs k x hx) hb)
      have hx0 := HXR.out 0 _ rfl
      simp only [rentalE, Nat.add_zero] at hx0
      have hgx := HG.out x (List.mem_of_getElem? hx)
      have HGx := Lib.hid hgx
      have C0 : ∀ W, Calls Tryd.prog 22 #[.pointer (some ⟨b, off + k * 5, none⟩)] (wr.drewN W) fun e w' => e = .returned (.bool (okRental x)) ∧ wr.drewN W = w' := fun W => s_l21OneW b (off + k * 5) x (wr.drewN W) HGx.out.1 HGx.out.2.1 HXR.out
      rcases hbx : okRental x with _ | _
      · have HB := Lib.hid hbx
        rw [hbx] at C0
        clear hbx
        have E : Hid (rentB l = false) := Lib.hid (rc_bad HH.out hx HB.out)
        clear hx hcs
        go_wp2_with fail
        go_quiet (first | (go_at_call 22; with_reducible exact quiet_left (C0 _)))
        go_wp2
        go_ret
        exact ⟨ret_bool E.out.symm, below_drewN hb _⟩
      · have HB := Lib.hid hbx
        rw [hbx] at C0
        clear hbx
        obtain hk0 | ⟨j, hk0⟩ : k = 0 ∨ ∃ j, k = j + 1 := by cases k with
          | zero => exact .inl rfl
          | succ j => exact .inr ⟨j, rfl⟩
        · subst hk0
          have HC := Lib.hid (rc_first HH.out hx HB.out)
          simp only [Nat.zero_mul, Nat.add_zero] at C0 hx0
          clear hx hcs HH
          go_wp2_with fail
          go_quiet (first | (go_at_call 22; with_reducible exact quiet_left (C0 _)))
          go_wp2
          first | (refine ⟨⟨1, by omega, by go_num, below_drewN hb _, HC⟩, ?_⟩; (simp [intOf]; omega)) | (go_roundw; (case rel => first | exact ⟨1, by omega, by go_num, below_drewN hb _, HC⟩ | ((try refine ⟨trivial, ?_⟩); (repeat apply Exists.intro); exact ⟨⟨1, by omega, by go_num, below_drewN hb _, HC⟩, rfl⟩)); (case measure => (simp [intOf]; omega)))
        · subst hk0
          obtain ⟨p, hp⟩ : ∃ p, l[j]? = some p := ⟨_, List.getElem?_eq_getElem (by have := Hl.out; omega)⟩
          have hp0 := range_below (B := 0) (hcs j p hp) hb 0 _ rfl
          simp only [rentalE, Nat.add_zero] at hp0
          rcases hlt' : Op.bytesLess p.fId.toList x.fId.toList with _ | _
          · have E : Hid (rentB l = false) := Lib.hid (rc_badlt HH.out hp hx hlt')
            clear hx hcs HH hp
            go_wp2_with fail
            go_quiet (first | (go_at_call 22; with_reducible exact quiet_left (C0 _)))
            go_wp2
            go_ret
            exact ⟨ret_bool E.out.symm, below_drewN hb _⟩
          · have HC' := Lib.hid (rc_next HH.out hp hx HB.out hlt')
            clear hx hcs HH hp
            go_wp2_with fail
            go_quiet (first | (go_at_call 22; with_reducible exact quiet_left (C0 _)))
            go_wp2
            first | (refine ⟨⟨j + 2, by omega, by go_num, below_drewN hb _, HC'⟩, ?_⟩; (simp [intOf]; omega)) | (go_roundw; (case rel => first | exact ⟨j + 2, by omega, by go_num, below_drewN hb _, HC'⟩ | ((try refine ⟨trivial, ?_⟩); (repeat apply Exists.intro); exact ⟨⟨j + 2, by omega, by go_num, below_drewN hb _, HC'⟩, rfl⟩)); (case measure => (simp [intOf]; omega)))
    · have HN : Hid (RC l n) := Lib.hid ((show k = n from by omega) ▸ HH.out)
      have E : Hid (rentB l = decide ((n : Int) ≤ 12)) := Lib.hid (rc_end HN.out Hl.out)
      go_wp2
      go_ret
      exact ⟨ret_bool E.out.symm, hb⟩

set_option maxRecDepth 100000 in
set_option maxHeartbeats 4000000 in
theorem i_ValidRentals (A : Option Addr) (n c : Nat) (l : List DRental) (w : World) (hr : Rd rentalE w A n l) (hn : n ≤ maxLen) (hg : ∀ x ∈ l, x.good) :
    Calls Tryd.prog 17 #[.slice A n c] w (RetB (rentB l) w) := by
  unfold maxLen at hn
  have Hl := Lib.hid hr.1
  have HG := Lib.hid hg; clear hg
  go_enter Tryd.func17, Tryd.ntmps17
  go_wp2_with fail
  go_loopw [7] (fun i wr => ∃ k : Nat, k ≤ n ∧ i = .int .i64 k ∧ Below w.heap.size w wr ∧ Hid (RC l k)) (fun i _ => n - (intOf i).toNat)
  case atStart => exact ⟨0, Nat.zero_le _, rfl, Below.refl _ _, Lib.hid (rc_zero l)⟩
  case round =>
    obtain ⟨k, hk, rfl, hb, HH⟩ := hrel
    by_cases hlt : k < n
    · obtain ⟨b, off, rfl, hcs⟩ := hr.2 (by omega)
      obtain ⟨x, hx⟩ : ∃ x, l[k]? = some x := ⟨_, List.getElem?_eq_getElem (by have := Hl.out; omega)⟩
      have hcr := range_below (B := 0) (hcs k x hx) hb
      have hc0 := hcr 0 _ rfl
      have hc1 := hcr 1 _ rfl
      have hc2 := hcr 2 _ rfl
      have hc3 := hcr 3 _ rfl
      have hc4 := hcr 4 _ rfl
      simp only [rentalE, Nat.add_zero] at hc0 hc1 hc2 hc3 hc4
      clear hcr
      have HGx := Lib.hid (HG.out x (mem_of_get hx))
      have HV : Hid (∀ W, Calls Tryd.prog 24 #[.agg #[.string x.fId, .string x.fItem, .int .i64 x.fDay, .int .i64 x.fMonths, .int .i64 x.fFee]] W (RetB (okRental x) W)) := Lib.hid (fun W => i_validRental x W HGx.out.1 HGx.out.2.1)
      rcases hbx : okRental x with _ | _
      · have HB := Lib.hid hbx
        rw [hbx] at HV
        clear hbx
        have E : Hid (rentB l = false) := Lib.hid (rc_bad HH.out hx HB.out)
        clear hx hcs
        have hcx := range_new wr #[.string x.fId, .string x.fItem, .int .i64 x.fDay, .int .i64 x.fMonths, .int .i64 x.fFee] 38
        have hb0 : Below w.heap.size w (wr.alloc (.cells #[.string x.fId, .string x.fItem, .int .i64 x.fDay, .int .i64 x.fMonths, .int .i64 x.fFee] 38)) := hb.alloc hb.size _
        have hba : Below wr.heap.size wr (wr.alloc (.cells #[.string x.fId, .string x.fItem, .int .i64 x.fDay, .int .i64 x.fMonths, .int .i64 x.fFee] 38)) := (Below.refl _ _).alloc (Nat.le_refl _) _
        obtain ⟨W0, hW0⟩ : ∃ W0, wr.alloc (.cells #[.string x.fId, .string x.fItem, .int .i64 x.fDay, .int .i64 x.fMonths, .int .i64 x.fFee] 38) = W0 := ⟨_, rfl⟩
        go_wp2_with fail
        rw [hW0] at hcx hb0 hba
        have hx0 := hcx 0 _ rfl
        have hx1 := hcx 1 _ rfl
        have hx2 := hcx 2 _ rfl
        have hx3 := hcx 3 _ rfl
        have hx4 := hcx 4 _ rfl
        simp only [Nat.zero_add] at hx0 hx1 hx2 hx3 hx4
        clear hW0 hcx hc0 hc1 hc2 hc3 hc4
        let S : World → Prop := fun w' => w'.cell? ⟨wr.heap.size, 0, none⟩ = some (.string x.fId) ∧ w'.cell? ⟨wr.heap.size, 1, none⟩ = some (.string x.fItem) ∧ w'.cell? ⟨wr.heap.size, 2, none⟩ = some (.int .i64 x.fDay) ∧ w'.cell? ⟨wr.heap.size, 3, none⟩ = some (.int .i64 x.fMonths) ∧ w'.cell? ⟨wr.heap.size, 4, none⟩ = some (.int .i64 x.fFee) ∧ Below w.heap.size w w'
        have hS : S (World.drew W0) := ⟨hx0, hx1, hx2, hx3, hx4, (hb0).drew⟩
        have hne : Nonempty (Wd S) := ⟨⟨_, hS⟩⟩
        have qc0 : ∀ t : Wd S, t.w.cell? ⟨wr.heap.size, 0, none⟩ = some (.string x.fId) := fun t => t.h.1
        have qc1 : ∀ t : Wd S, t.w.cell? ⟨wr.heap.size, 1, none⟩ = some (.string x.fItem) := fun t => t.h.2.1
        have qc2 : ∀ t : Wd S, t.w.cell? ⟨wr.heap.size, 2, none⟩ = some (.int .i64 x.fDay) := fun t => t.h.2.2.1
        have qc3 : ∀ t : Wd S, t.w.cell? ⟨wr.heap.size, 3, none⟩ = some (.int .i64 x.fMonths) := fun t => t.h.2.2.2.1
        have qc4 : ∀ t : Wd S, t.w.cell? ⟨wr.heap.size, 4, none⟩ = some (.int .i64 x.fFee) := fun t => t.h.2.2.2.2.1
        have Q9 : Hid (∀ (t : Wd S) (w' : World), Below t.w.heap.size t.w w' → S w') := Lib.hid (fun t w' h => ⟨cell_later h t.h.1, cell_later h t.h.2.1, cell_later h t.h.2.2.1, cell_later h t.h.2.2.2.1, cell_later h t.h.2.2.2.2.1, t.h.2.2.2.2.2.trans (h.mono t.h.2.2.2.2.2.size)⟩)
        have QE : Hid (∀ w', S w' → w'.cell? ⟨wr.heap.size, 0, none⟩ = some (.string x.fId) ∧ w'.cell? ⟨wr.heap.size, 1, none⟩ = some (.string x.fItem) ∧ w'.cell? ⟨wr.heap.size, 2, none⟩ = some (.int .i64 x.fDay) ∧ w'.cell? ⟨wr.heap.size, 3, none⟩ = some (.int .i64 x.fMonths) ∧ w'.cell? ⟨wr.heap.size, 4, none⟩ = some (.int .i64 x.fFee) ∧ Below w.heap.size w w') := Lib.hid (fun w' h => h)
        refine wp_region_class S (by kernel_rfl) (by kernel_rfl) hS ?_
        clear_value S
        repeat (go_big_quiet_step ((first | (go_at_call 24; exact class_call _ (HV.out _) (fun e w' h => ⟨h.1, Q9.out _ _ h.2⟩)))))
        refine wpQuiet_nil ?_
        rintro _ ⟨⟨w1, hw1⟩, rfl⟩
        have hE := QE.out _ hw1
        have hb2 := hE.2.2.2.2.2
        clear hE
        try dsimp only
        clear hw1 hS hne Q9 QE qc0 qc1 qc2 qc3 qc4
        go_wp2
        go_ret
        exact ⟨ret_bool E.out.symm, hb2⟩
      · have HB := Lib.hid hbx
        rw [hbx] at HV
        clear hbx
        obtain hk0 | ⟨j, hk0⟩ : k = 0 ∨ ∃ j, k = j + 1 := by cases k with
          | zero => exact .inl rfl
          | succ j => exact .inr ⟨j, rfl⟩
        · subst hk0
          rw [Nat.zero_mul, Nat.add_zero] at hc0 hc1 hc2 hc3 hc4
          have HC := Lib.hid (rc_first HH.out hx HB.out)
          clear hx hcs HH
          have hcx := range_new wr #[.string x.fId, .string x.fItem, .int .i64 x.fDay, .int .i64 x.fMonths, .int .i64 x.fFee] 38
          have hb0 : Below w.heap.size w (wr.alloc (.cells #[.string x.fId, .string x.fItem, .int .i64 x.fDay, .int .i64 x.fMonths, .int .i64 x.fFee] 38)) := hb.alloc hb.size _
          have hba : Below wr.heap.size wr (wr.alloc (.cells #[.string x.fId, .string x.fItem, .int .i64 x.fDay, .int .i64 x.fMonths, .int .i64 x.fFee] 38)) := (Below.refl _ _).alloc (Nat.le_refl _) _
          obtain ⟨W0, hW0⟩ : ∃ W0, wr.alloc (.cells #[.string x.fId, .string x.fItem, .int .i64 x.fDay, .int .i64 x.fMonths, .int .i64 x.fFee] 38) = W0 := ⟨_, rfl⟩
          go_wp2_with fail
          rw [hW0] at hcx hb0 hba
          have hx0 := hcx 0 _ rfl
          have hx1 := hcx 1 _ rfl
          have hx2 := hcx 2 _ rfl
          have hx3 := hcx 3 _ rfl
          have hx4 := hcx 4 _ rfl
          simp only [Nat.zero_add] at hx0 hx1 hx2 hx3 hx4
          clear hW0 hcx hc0 hc1 hc2 hc3 hc4
          let S : World → Prop := fun w' => w'.cell? ⟨wr.heap.size, 0, none⟩ = some (.string x.fId) ∧ w'.cell? ⟨wr.heap.size, 1, none⟩ = some (.string x.fItem) ∧ w'.cell? ⟨wr.heap.size, 2, none⟩ = some (.int .i64 x.fDay) ∧ w'.cell? ⟨wr.heap.size, 3, none⟩ = some (.int .i64 x.fMonths) ∧ w'.cell? ⟨wr.heap.size, 4, none⟩ = some (.int .i64 x.fFee) ∧ Below w.heap.size w w'
          have hS : S (World.drew W0) := ⟨hx0, hx1, hx2, hx3, hx4, (hb0).drew⟩
          have hne : Nonempty (Wd S) := ⟨⟨_, hS⟩⟩
          have qc0 : ∀ t : Wd S, t.w.cell? ⟨wr.heap.size, 0, none⟩ = some (.string x.fId) := fun t => t.h.1
          have qc1 : ∀ t : Wd S, t.w.cell? ⟨wr.heap.size, 1, none⟩ = some (.string x.fItem) := fun t => t.h.2.1
          have qc2 : ∀ t : Wd S, t.w.cell? ⟨wr.heap.size, 2, none⟩ = some (.int .i64 x.fDay) := fun t => t.h.2.2.1
          have qc3 : ∀ t : Wd S, t.w.cell? ⟨wr.heap.size, 3, none⟩ = some (.int .i64 x.fMonths) := fun t => t.h.2.2.2.1
          have qc4 : ∀ t : Wd S, t.w.cell? ⟨wr.heap.size, 4, none⟩ = some (.int .i64 x.fFee) := fun t => t.h.2.2.2.2.1
          have Q9 : Hid (∀ (t : Wd S) (w' : World), Below t.w.heap.size t.w w' → S w') := Lib.hid (fun t w' h => ⟨cell_later h t.h.1, cell_later h t.h.2.1, cell_later h t.h.2.2.1, cell_later h t.h.2.2.2.1, cell_later h t.h.2.2.2.2.1, t.h.2.2.2.2.2.trans (h.mono t.h.2.2.2.2.2.size)⟩)
          have QE : Hid (∀ w', S w' → w'.cell? ⟨wr.heap.size, 0, none⟩ = some (.string x.fId) ∧ w'.cell? ⟨wr.heap.size, 1, none⟩ = some (.string x.fItem) ∧ w'.cell? ⟨wr.heap.size, 2, none⟩ = some (.int .i64 x.fDay) ∧ w'.cell? ⟨wr.heap.size, 3, none⟩ = some (.int .i64 x.fMonths) ∧ w'.cell? ⟨wr.heap.size, 4, none⟩ = some (.int .i64 x.fFee) ∧ Below w.heap.size w w') := Lib.hid (fun w' h => h)
          refine wp_region_class S (by kernel_rfl) (by kernel_rfl) hS ?_
          clear_value S
          repeat (go_big_quiet_step ((first | (go_at_call 24; exact class_call _ (HV.out _) (fun e w' h => ⟨h.1, Q9.out _ _ h.2⟩)))))
          refine wpQuiet_nil ?_
          rintro _ ⟨⟨w1, hw1⟩, rfl⟩
          have hE := QE.out _ hw1
          have hb2 := hE.2.2.2.2.2
          clear hE
          try dsimp only
          clear hw1 hS hne Q9 QE qc0 qc1 qc2 qc3 qc4
          go_wp2
          first | (refine ⟨⟨1, by omega, by go_num, hb2, HC⟩, ?_⟩; (simp [intOf]; omega)) | (go_roundw; (case rel => first | exact ⟨1, by omega, by go_num, hb2, HC⟩ | ((try refine ⟨trivial, ?_⟩); (repeat apply Exists.intro); exact ⟨⟨1, by omega, by go_num, hb2, HC⟩, rfl⟩)); (case measure => (simp [intOf]; omega)))
        · subst hk0
          obtain ⟨p, hp⟩ : ∃ p, l[j]? = some p := ⟨_, List.getElem?_eq_getElem (by have := Hl.out; omega)⟩
          have HP := Lib.hid (range_below (B := 0) (hcs j p hp) hb)
          rcases hlt' : Op.bytesLess p.fId.toList x.fId.toList with _ | _
          · have E : Hid (rentB l = false) := Lib.hid (rc_badlt HH.out hp hx hlt')
            clear hx hcs HH hp
            have hcx := range_new wr #[.string x.fId, .string x.fItem, .int .i64 x.fDay, .int .i64 x.fMonths, .int .i64 x.fFee] 38
            have hb0 : Below w.heap.size w (wr.alloc (.cells #[.string x.fId, .string x.fItem, .int .i64 x.fDay, .int .i64 x.fMonths, .int .i64 x.fFee] 38)) := hb.alloc hb.size _
            have hba : Below wr.heap.size wr (wr.alloc (.cells #[.string x.fId, .string x.fItem, .int .i64 x.fDay, .int .i64 x.fMonths, .int .i64 x.fFee] 38)) := (Below.refl _ _).alloc (Nat.le_refl _) _
            obtain ⟨W0, hW0⟩ : ∃ W0, wr.alloc (.cells #[.string x.fId, .string x.fItem, .int .i64 x.fDay, .int .i64 x.fMonths, .int .i64 x.fFee] 38) = W0 := ⟨_, rfl⟩
            go_wp2_with fail
            rw [hW0] at hcx hb0 hba
            have hx0 := hcx 0 _ rfl
            have hx1 := hcx 1 _ rfl
            have hx2 := hcx 2 _ rfl
            have hx3 := hcx 3 _ rfl
            have hx4 := hcx 4 _ rfl
            simp only [Nat.zero_add] at hx0 hx1 hx2 hx3 hx4
            clear hW0 hcx hc0 hc1 hc2 hc3 hc4
            have hp0 := range_below (B := 0) HP.out hba 0 _ rfl
            simp only [rentalE, Nat.add_zero] at hp0
            let S : World → Prop := fun w' => w'.cell? ⟨wr.heap.size, 0, none⟩ = some (.string x.fId) ∧ w'.cell? ⟨wr.heap.size, 1, none⟩ = some (.string x.fItem) ∧ w'.cell? ⟨wr.heap.size, 2, none⟩ = some (.int .i64 x.fDay) ∧ w'.cell? ⟨wr.heap.size, 3, none⟩ = some (.int .i64 x.fMonths) ∧ w'.cell? ⟨wr.heap.size, 4, none⟩ = some (.int .i64 x.fFee) ∧ w'.cell? ⟨b, off + j * 5, none⟩ = some (.string p.fId) ∧ Below w.heap.size w w'
            have hS : S (World.drew W0) := ⟨hx0, hx1, hx2, hx3, hx4, hp0, (hb0).drew⟩
            have hne : Nonempty (Wd S) := ⟨⟨_, hS⟩⟩
            have qc0 : ∀ t : Wd S, t.w.cell? ⟨wr.heap.size, 0, none⟩ = some (.string x.fId) := fun t => t.h.1
            have qc1 : ∀ t : Wd S, t.w.cell? ⟨wr.heap.size, 1, none⟩ = some (.string x.fItem) := fun t => t.h.2.1
            have qc2 : ∀ t : Wd S, t.w.cell? ⟨wr.heap.size, 2, none⟩ = some (.int .i64 x.fDay) := fun t => t.h.2.2.1
            have qc3 : ∀ t : Wd S, t.w.cell? ⟨wr.heap.size, 3, none⟩ = some (.int .i64 x.fMonths) := fun t => t.h.2.2.2.1
            have qc4 : ∀ t : Wd S, t.w.cell? ⟨wr.heap.size, 4, none⟩ = some (.int .i64 x.fFee) := fun t => t.h.2.2.2.2.1
            have qc5 : ∀ t : Wd S, t.w.cell? ⟨b, off + j * 5, none⟩ = some (.string p.fId) := fun t => t.h.2.2.2.2.2.1
            have Q9 : Hid (∀ (t : Wd S) (w' : World), Below t.w.heap.size t.w w' → S w') := Lib.hid (fun t w' h => ⟨cell_later h t.h.1, cell_later h t.h.2.1, cell_later h t.h.2.2.1, cell_later h t.h.2.2.2.1, cell_later h t.h.2.2.2.2.1, cell_later h t.h.2.2.2.2.2.1, t.h.2.2.2.2.2.2.trans (h.mono t.h.2.2.2.2.2.2.size)⟩)
            have QE : Hid (∀ w', S w' → w'.cell? ⟨wr.heap.size, 0, none⟩ = some (.string x.fId) ∧ w'.cell? ⟨wr.heap.size, 1, none⟩ = some (.string x.fItem) ∧ w'.cell? ⟨wr.heap.size, 2, none⟩ = some (.int .i64 x.fDay) ∧ w'.cell? ⟨wr.heap.size, 3, none⟩ = some (.int .i64 x.fMonths) ∧ w'.cell? ⟨wr.heap.size, 4, none⟩ = some (.int .i64 x.fFee) ∧ w'.cell? ⟨b, off + j * 5, none⟩ = some (.string p.fId) ∧ Below w.heap.size w w') := Lib.hid (fun w' h => h)
            refine wp_region_class S (by kernel_rfl) (by kernel_rfl) hS ?_
            clear_value S
            repeat (go_big_quiet_step ((first | (go_at_call 24; exact class_call _ (HV.out _) (fun e w' h => ⟨h.1, Q9.out _ _ h.2⟩)))))
            refine wpQuiet_nil ?_
            rintro _ ⟨⟨w1, hw1⟩, rfl⟩
            have hE := QE.out _ hw1
            have hb2 := hE.2.2.2.2.2.2
            clear hE
            try dsimp only
            clear hw1 hS hne Q9 QE qc0 qc1 qc2 qc3 qc4 qc5
            go_wp2
            go_ret
            exact ⟨ret_bool E.out.symm, hb2⟩
          · have HC' := Lib.hid (rc_next HH.out hp hx HB.out hlt')
            clear hx hcs HH hp
            have hcx := range_new wr #[.string x.fId, .string x.fItem, .int .i64 x.fDay, .int .i64 x.fMonths, .int .i64 x.fFee] 38
            have hb0 : Below w.heap.size w (wr.alloc (.cells #[.string x.fId, .string x.fItem, .int .i64 x.fDay, .int .i64 x.fMonths, .int .i64 x.fFee] 38)) := hb.alloc hb.size _
            have hba : Below wr.heap.size wr (wr.alloc (.cells #[.string x.fId, .string x.fItem, .int .i64 x.fDay, .int .i64 x.fMonths, .int .i64 x.fFee] 38)) := (Below.refl _ _).alloc (Nat.le_refl _) _
            obtain ⟨W0, hW0⟩ : ∃ W0, wr.alloc (.cells #[.string x.fId, .string x.fItem, .int .i64 x.fDay, .int .i64 x.fMonths, .int .i64 x.fFee] 38) = W0 := ⟨_, rfl⟩
            go_wp2_with fail
            rw [hW0] at hcx hb0 hba
            have hx0 := hcx 0 _ rfl
            have hx1 := hcx 1 _ rfl
            have hx2 := hcx 2 _ rfl
            have hx3 := hcx 3 _ rfl
            have hx4 := hcx 4 _ rfl
            simp only [Nat.zero_add] at hx0 hx1 hx2 hx3 hx4
            clear hW0 hcx hc0 hc1 hc2 hc3 hc4
            have hp0 := range_below (B := 0) HP.out hba 0 _ rfl
            simp only [rentalE, Nat.add_zero] at hp0
            let S : World → Prop := fun w' => w'.cell? ⟨wr.heap.size, 0, none⟩ = some (.string x.fId) ∧ w'.cell? ⟨wr.heap.size, 1, none⟩ = some (.string x.fItem) ∧ w'.cell? ⟨wr.heap.size, 2, none⟩ = some (.int .i64 x.fDay) ∧ w'.cell? ⟨wr.heap.size, 3, none⟩ = some (.int .i64 x.fMonths) ∧ w'.cell? ⟨wr.heap.size, 4, none⟩ = some (.int .i64 x.fFee) ∧ w'.cell? ⟨b, off + j * 5, none⟩ = some (.string p.fId) ∧ Below w.heap.size w w'
            have hS : S (World.drew W0) := ⟨hx0, hx1, hx2, hx3, hx4, hp0, (hb0).drew⟩
            have hne : Nonempty (Wd S) := ⟨⟨_, hS⟩⟩
            have qc0 : ∀ t : Wd S, t.w.cell? ⟨wr.heap.size, 0, none⟩ = some (.string x.fId) := fun t => t.h.1
            have qc1 : ∀ t : Wd S, t.w.cell? ⟨wr.heap.size, 1, none⟩ = some (.string x.fItem) := fun t => t.h.2.1
            have qc2 : ∀ t : Wd S, t.w.cell? ⟨wr.heap.size, 2, none⟩ = some (.int .i64 x.fDay) := fun t => t.h.2.2.1
            have qc3 : ∀ t : Wd S, t.w.cell? ⟨wr.heap.size, 3, none⟩ = some (.int .i64 x.fMonths) := fun t => t.h.2.2.2.1
            have qc4 : ∀ t : Wd S, t.w.cell? ⟨wr.heap.size, 4, none⟩ = some (.int .i64 x.fFee) := fun t => t.h.2.2.2.2.1
            have qc5 : ∀ t : Wd S, t.w.cell? ⟨b, off + j * 5, none⟩ = some (.string p.fId) := fun t => t.h.2.2.2.2.2.1
            have Q9 : Hid (∀ (t : Wd S) (w' : World), Below t.w.heap.size t.w w' → S w') := Lib.hid (fun t w' h => ⟨cell_later h t.h.1, cell_later h t.h.2.1, cell_later h t.h.2.2.1, cell_later h t.h.2.2.2.1, cell_later h t.h.2.2.2.2.1, cell_later h t.h.2.2.2.2.2.1, t.h.2.2.2.2.2.2.trans (h.mono t.h.2.2.2.2.2.2.size)⟩)
            have QE : Hid (∀ w', S w' → w'.cell? ⟨wr.heap.size, 0, none⟩ = some (.string x.fId) ∧ w'.cell? ⟨wr.heap.size, 1, none⟩ = some (.string x.fItem) ∧ w'.cell? ⟨wr.heap.size, 2, none⟩ = some (.int .i64 x.fDay) ∧ w'.cell? ⟨wr.heap.size, 3, none⟩ = some (.int .i64 x.fMonths) ∧ w'.cell? ⟨wr.heap.size, 4, none⟩ = some (.int .i64 x.fFee) ∧ w'.cell? ⟨b, off + j * 5, none⟩ = some (.string p.fId) ∧ Below w.heap.size w w') := Lib.hid (fun w' h => h)
            refine wp_region_class S (by kernel_rfl) (by kernel_rfl) hS ?_
            clear_value S
            repeat (go_big_quiet_step ((first | (go_at_call 24; exact class_call _ (HV.out _) (fun e w' h => ⟨h.1, Q9.out _ _ h.2⟩)))))
            refine wpQuiet_nil ?_
            rintro _ ⟨⟨w1, hw1⟩, rfl⟩
            have hE := QE.out _ hw1
            have hb2 := hE.2.2.2.2.2.2
            clear hE
            try dsimp only
            clear hw1 hS hne Q9 QE qc0 qc1 qc2 qc3 qc4 qc5
            go_wp2
            first | (refine ⟨⟨j + 2, by omega, by go_num, hb2, HC'⟩, ?_⟩; (simp [intOf]; omega)) | (go_roundw; (case rel => first | exact ⟨j + 2, by omega, by go_num, hb2, HC'⟩ | ((try refine ⟨trivial, ?_⟩); (repeat apply Exists.intro); exact ⟨⟨j + 2, by omega, by go_num, hb2, HC'⟩, rfl⟩)); (case measure => (simp [intOf]; omega)))
    · have HN : Hid (RC l n) := Lib.hid ((show k = n from by omega) ▸ HH.out)
      have E : Hid (rentB l = decide ((n : Int) ≤ 12)) := Lib.hid (rc_end HN.out Hl.out)
      go_wp2_with fail
      refine (i_few _ _ _ (by omega) (by omega)).mono ?_
      rintro e w' ⟨rfl, rfl⟩
      go_wp2
      go_ret
      exact ⟨ret_bool E.out.symm, hb⟩

end Go.Proofs.YtndbppplkfpgnaaDoor
