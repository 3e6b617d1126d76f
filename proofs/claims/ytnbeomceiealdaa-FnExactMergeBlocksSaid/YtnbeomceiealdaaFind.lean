/- Where a block is in a list of blocks in order. -/
import Derived.Test.YtnbeomceiealdaaRows
import Derived.Test.YtnbeomceiealdaaBlocks
import Derived.Test.YtnbeomceiealdaaSorted
namespace Go.Proofs.Ytnbeomceiealdaa
set_option linter.unusedVariables false
set_option linter.unusedSimpArgs false
set_option linter.unusedSectionVars false
open Go.RowKit

theorem w64_in (n : Int) (h : -9223372036854775808 ≤ n ∧ n ≤ 9223372036854775807) : wrap64 n = n := by unfold wrap64; omega
theorem u64_in (n : Int) (h : 0 ≤ n ∧ n ≤ 18446744073709551615) : IntKind.u64.wrap n = n := by
  simp [IntKind.wrap, IntKind.bits, IntKind.signed]
  omega
theorem cmpBl_vals (x y : DBlock) : cmpBl x y = -1 ∨ cmpBl x y = 0 ∨ cmpBl x y = 1 := by
  unfold cmpBl
  split
  · exact cmpS_vals _ _
  · exact cmpS_vals _ _

set_option maxHeartbeats 4000000 in
theorem i_BinSearch (A : Option Addr) (n c : Nat) (l : List DBlock) (key : DBlock) (p : Nat) (w : World) (hr : Rd blockE w A n l) (hn : n ≤ 8388608) (hp : PartsAt l key p) :
    Calls Try.prog 53 #[.slice A n c, .agg #[.string key.fKind, .string key.fName, .string key.fText], .func (.func 39) #[] #[]] w fun e w' => e = .returned (.tuple #[.int .i64 p, .bool (foundB l key p)]) ∧ Below w.heap.size w w' := by
  have Hl := Lib.hid hr.1
  have hpn : p ≤ n := by have := hp.le; rw [Hl.out] at this; exact this
  have HP := Lib.hid hp; clear hp
  have hcx := range_new w #[.string key.fKind, .string key.fName, .string key.fText] 26
  have hx0 := hcx 0 (.string key.fKind) rfl
  have hx1 := hcx 1 (.string key.fName) rfl
  have hx2 := hcx 2 (.string key.fText) rfl
  simp only [Nat.zero_add] at hx0 hx1 hx2
  have hb0 : Below w.heap.size w (w.alloc (.cells #[.string key.fKind, .string key.fName, .string key.fText] 26)) := by (repeat (first | exact Below.refl _ _ | assumption | refine Below.drew ?_ | refine Below.alloc ?_ (by first | omega | (simp; done) | (simp; omega) | exact Below.size (by assumption)) _ | refine Below.setCell ?_ (by first | omega | (simp; done) | (simp; omega)) _))
  clear hcx
  go_enter Try.func53, Try.ntmps53
  go_wp2_with fail
  go_loopw [9, 10] (fun i j wr => ∃ (a z : Nat), a ≤ p ∧ p ≤ z ∧ z ≤ n ∧ i = .int .i64 a ∧ j = .int .i64 z ∧ Below w.heap.size w wr ∧ wr.cell? ⟨w.heap.size, 0, none⟩ = some (.string key.fKind) ∧ wr.cell? ⟨w.heap.size, 1, none⟩ = some (.string key.fName) ∧ wr.cell? ⟨w.heap.size, 2, none⟩ = some (.string key.fText)) (fun i j _ => (intOf j).toNat - (intOf i).toNat)
  case atStart => exact ⟨0, n, Nat.zero_le _, hpn, Nat.le_refl _, rfl, rfl, hb0, hx0, hx1, hx2⟩
  case round =>
    obtain ⟨a, z, ha, hz, hzn, rfl, rfl, hb, hk0, hk1, hk2⟩ := hrel
    by_cases hlt : a < z
    · obtain ⟨m, hm⟩ : ∃ m, (a + z) / 2 = m := ⟨_, rfl⟩
      have hm1 : a ≤ m := by omega
      have hm2 : m < z := by omega
      obtain ⟨b, off, rfl, hcs⟩ := hr.2 (by omega)
      obtain ⟨x, hx⟩ : ∃ x, l[m]? = some x := ⟨_, List.getElem?_eq_getElem (by have := Hl.out; omega)⟩
      have hcr := range_below (B := 0) (hcs m x hx) hb
      have hc0 := hcr 0 (.string x.fKind) rfl
      have hc1 := hcr 1 (.string x.fName) rfl
      have hc2 := hcr 2 (.string x.fText) rfl
      simp only [blockE, Nat.add_zero] at hc0 hc1 hc2
      clear hcr hcs
      have hM : Hid (∀ W, Calls Try.prog 39 #[.agg #[.string x.fKind, .string x.fName, .string x.fText], .agg #[.string key.fKind, .string key.fName, .string key.fText]] W fun e w' => e = .returned (.int .i64 (cmpBl x key)) ∧ Below W.heap.size W w') := Lib.hid (fun W => i_Block_compare x key W)
      have hmm : wrap64 (IntKind.u64.wrap (wrap64 ((a : Int) + z)) / 2) = m := by
        rw [w64_in ((a : Int) + z) (by omega), u64_in ((a : Int) + z) (by omega), w64_in (((a : Int) + z) / 2) (by omega)]
        omega
      by_cases hlt0 : cmpBl x key < 0
      · have hmp : m < p := by rcases Nat.lt_or_ge m p with h | h; exact h; exact absurd hlt0 (HP.out.hi m x h hx)
        clear hx
        go_wp2_with fail
        let S : World → Prop := fun w' => w'.cell? ⟨w.heap.size, 0, none⟩ = some (.string key.fKind) ∧ w'.cell? ⟨w.heap.size, 1, none⟩ = some (.string key.fName) ∧ w'.cell? ⟨w.heap.size, 2, none⟩ = some (.string key.fText) ∧ w'.cell? ⟨b, off + m * 3, none⟩ = some (.string x.fKind) ∧ w'.cell? ⟨b, off + m * 3 + 1, none⟩ = some (.string x.fName) ∧ w'.cell? ⟨b, off + m * 3 + 2, none⟩ = some (.string x.fText) ∧ Below w.heap.size w w'
        have hS : S (World.drew wr) := ⟨hk0, hk1, hk2, hc0, hc1, hc2, (hb).drew⟩
        have hne : Nonempty (Wd S) := ⟨⟨_, hS⟩⟩
        have qc0 : ∀ t : Wd S, t.w.cell? ⟨w.heap.size, 0, none⟩ = some (.string key.fKind) := fun t => t.h.1
        have qc1 : ∀ t : Wd S, t.w.cell? ⟨w.heap.size, 1, none⟩ = some (.string key.fName) := fun t => t.h.2.1
        have qc2 : ∀ t : Wd S, t.w.cell? ⟨w.heap.size, 2, none⟩ = some (.string key.fText) := fun t => t.h.2.2.1
        have qc3 : ∀ t : Wd S, t.w.cell? ⟨b, off + m * 3, none⟩ = some (.string x.fKind) := fun t => t.h.2.2.2.1
        have qc4 : ∀ t : Wd S, t.w.cell? ⟨b, off + m * 3 + 1, none⟩ = some (.string x.fName) := fun t => t.h.2.2.2.2.1
        have qc5 : ∀ t : Wd S, t.w.cell? ⟨b, off + m * 3 + 2, none⟩ = some (.string x.fText) := fun t => t.h.2.2.2.2.2.1
        have Q9 : Hid (∀ (t : Wd S) (w' : World), Below t.w.heap.size t.w w' → S w') := Lib.hid (fun t w' h => ⟨cell_later h t.h.1, cell_later h t.h.2.1, cell_later h t.h.2.2.1, cell_later h t.h.2.2.2.1, cell_later h t.h.2.2.2.2.1, cell_later h t.h.2.2.2.2.2.1, t.h.2.2.2.2.2.2.trans (h.mono t.h.2.2.2.2.2.2.size)⟩)
        have QE : Hid (∀ w', S w' → w'.cell? ⟨w.heap.size, 0, none⟩ = some (.string key.fKind) ∧ w'.cell? ⟨w.heap.size, 1, none⟩ = some (.string key.fName) ∧ w'.cell? ⟨w.heap.size, 2, none⟩ = some (.string key.fText) ∧ w'.cell? ⟨b, off + m * 3, none⟩ = some (.string x.fKind) ∧ w'.cell? ⟨b, off + m * 3 + 1, none⟩ = some (.string x.fName) ∧ w'.cell? ⟨b, off + m * 3 + 2, none⟩ = some (.string x.fText) ∧ Below w.heap.size w w') := Lib.hid (fun w' h => h)
        refine wp_region_class S (by kernel_rfl) (by kernel_rfl) hS ?_
        clear_value S
        repeat (go_big_quiet_step ((first | (go_at_call 39; exact class_call _ (hM.out _) (fun e w' h => ⟨h.1, Q9.out _ _ h.2⟩)))))
        refine wpQuiet_nil ?_
        rintro _ ⟨⟨w1, hw1⟩, rfl⟩
        obtain ⟨hk0', hk1', hk2', hcc0, hcc1, hcc2, hb2⟩ := QE.out _ hw1
        try dsimp only
        clear hw1 hS hne Q9 QE qc0 qc1 qc2 qc3 qc4 qc5
        clear hcc0 hcc1 hcc2 hk0 hk1 hk2 hc0 hc1 hc2
        go_wp2
        first | (refine ⟨⟨m + 1, z, by omega, by omega, by omega, by go_num, rfl, hb2, hk0', hk1', hk2'⟩, ?_⟩; (simp [intOf]; omega)) | (go_roundw; (case rel => exact ⟨m + 1, z, by omega, by omega, by omega, by go_num, rfl, hb2, hk0', hk1', hk2'⟩); (case measure => (simp [intOf]; omega)))
      · have hmp : p ≤ m := by rcases Nat.lt_or_ge m p with h | h; exact absurd (HP.out.lo m x h hx) hlt0; exact h
        clear hx
        go_wp2_with fail
        let S : World → Prop := fun w' => w'.cell? ⟨w.heap.size, 0, none⟩ = some (.string key.fKind) ∧ w'.cell? ⟨w.heap.size, 1, none⟩ = some (.string key.fName) ∧ w'.cell? ⟨w.heap.size, 2, none⟩ = some (.string key.fText) ∧ w'.cell? ⟨b, off + m * 3, none⟩ = some (.string x.fKind) ∧ w'.cell? ⟨b, off + m * 3 + 1, none⟩ = some (.string x.fName) ∧ w'.cell? ⟨b, off + m * 3 + 2, none⟩ = some (.string x.fText) ∧ Below w.heap.size w w'
        have hS : S (World.drew wr) := ⟨hk0, hk1, hk2, hc0, hc1, hc2, (hb).drew⟩
        have hne : Nonempty (Wd S) := ⟨⟨_, hS⟩⟩
        have qc0 : ∀ t : Wd S, t.w.cell? ⟨w.heap.size, 0, none⟩ = some (.string key.fKind) := fun t => t.h.1
        have qc1 : ∀ t : Wd S, t.w.cell? ⟨w.heap.size, 1, none⟩ = some (.string key.fName) := fun t => t.h.2.1
        have qc2 : ∀ t : Wd S, t.w.cell? ⟨w.heap.size, 2, none⟩ = some (.string key.fText) := fun t => t.h.2.2.1
        have qc3 : ∀ t : Wd S, t.w.cell? ⟨b, off + m * 3, none⟩ = some (.string x.fKind) := fun t => t.h.2.2.2.1
        have qc4 : ∀ t : Wd S, t.w.cell? ⟨b, off + m * 3 + 1, none⟩ = some (.string x.fName) := fun t => t.h.2.2.2.2.1
        have qc5 : ∀ t : Wd S, t.w.cell? ⟨b, off + m * 3 + 2, none⟩ = some (.string x.fText) := fun t => t.h.2.2.2.2.2.1
        have Q9 : Hid (∀ (t : Wd S) (w' : World), Below t.w.heap.size t.w w' → S w') := Lib.hid (fun t w' h => ⟨cell_later h t.h.1, cell_later h t.h.2.1, cell_later h t.h.2.2.1, cell_later h t.h.2.2.2.1, cell_later h t.h.2.2.2.2.1, cell_later h t.h.2.2.2.2.2.1, t.h.2.2.2.2.2.2.trans (h.mono t.h.2.2.2.2.2.2.size)⟩)
        have QE : Hid (∀ w', S w' → w'.cell? ⟨w.heap.size, 0, none⟩ = some (.string key.fKind) ∧ w'.cell? ⟨w.heap.size, 1, none⟩ = some (.string key.fName) ∧ w'.cell? ⟨w.heap.size, 2, none⟩ = some (.string key.fText) ∧ w'.cell? ⟨b, off + m * 3, none⟩ = some (.string x.fKind) ∧ w'.cell? ⟨b, off + m * 3 + 1, none⟩ = some (.string x.fName) ∧ w'.cell? ⟨b, off + m * 3 + 2, none⟩ = some (.string x.fText) ∧ Below w.heap.size w w') := Lib.hid (fun w' h => h)
        refine wp_region_class S (by kernel_rfl) (by kernel_rfl) hS ?_
        clear_value S
        repeat (go_big_quiet_step ((first | (go_at_call 39; exact class_call _ (hM.out _) (fun e w' h => ⟨h.1, Q9.out _ _ h.2⟩)))))
        refine wpQuiet_nil ?_
        rintro _ ⟨⟨w1, hw1⟩, rfl⟩
        obtain ⟨hk0', hk1', hk2', hcc0, hcc1, hcc2, hb2⟩ := QE.out _ hw1
        try dsimp only
        clear hw1 hS hne Q9 QE qc0 qc1 qc2 qc3 qc4 qc5
        clear hcc0 hcc1 hcc2 hk0 hk1 hk2 hc0 hc1 hc2
        go_wp2
        first | (refine ⟨⟨a, m, by omega, by omega, by omega, rfl, by congr 1; omega, hb2, hk0', hk1', hk2'⟩, ?_⟩; (simp [intOf]; omega)) | (go_roundw; (case rel => exact ⟨a, m, by omega, by omega, by omega, rfl, by congr 1; omega, hb2, hk0', hk1', hk2'⟩); (case measure => (simp [intOf]; omega)))
    · obtain rfl : a = p := by omega
      obtain rfl : z = a := by omega
      by_cases hpn' : z < n
      · obtain ⟨b, off, rfl, hcs⟩ := hr.2 (by omega)
        obtain ⟨x, hx⟩ : ∃ x, l[z]? = some x := ⟨_, List.getElem?_eq_getElem (by have := Hl.out; omega)⟩
        have hcr := range_below (B := 0) (hcs z x hx) hb
        have hc0 := hcr 0 (.string x.fKind) rfl
        have hc1 := hcr 1 (.string x.fName) rfl
        have hc2 := hcr 2 (.string x.fText) rfl
        simp only [blockE, Nat.add_zero] at hc0 hc1 hc2
        have HF : Hid (foundB l key z = decide (cmpBl x key = 0)) := Lib.hid (by unfold foundB; rw [hx])
        clear hcr hcs hx
        have hM : Hid (∀ W, Calls Try.prog 39 #[.agg #[.string x.fKind, .string x.fName, .string x.fText], .agg #[.string key.fKind, .string key.fName, .string key.fText]] W fun e w' => e = .returned (.int .i64 (cmpBl x key)) ∧ Below W.heap.size W w') := Lib.hid (fun W => i_Block_compare x key W)
        by_cases h0 : cmpBl x key = 0
        · rw [h0] at hM
          have HF' : Hid (foundB l key z = true) := Lib.hid (by rw [HF.out, decide_eq_true h0])
          clear HF h0
          go_wp2_with fail
          let S : World → Prop := fun w' => w'.cell? ⟨w.heap.size, 0, none⟩ = some (.string key.fKind) ∧ w'.cell? ⟨w.heap.size, 1, none⟩ = some (.string key.fName) ∧ w'.cell? ⟨w.heap.size, 2, none⟩ = some (.string key.fText) ∧ w'.cell? ⟨b, off + z * 3, none⟩ = some (.string x.fKind) ∧ w'.cell? ⟨b, off + z * 3 + 1, none⟩ = some (.string x.fName) ∧ w'.cell? ⟨b, off + z * 3 + 2, none⟩ = some (.string x.fText) ∧ Below w.heap.size w w'
          have hS : S (World.drew wr) := ⟨hk0, hk1, hk2, hc0, hc1, hc2, (hb).drew⟩
          have hne : Nonempty (Wd S) := ⟨⟨_, hS⟩⟩
          have qc0 : ∀ t : Wd S, t.w.cell? ⟨w.heap.size, 0, none⟩ = some (.string key.fKind) := fun t => t.h.1
          have qc1 : ∀ t : Wd S, t.w.cell? ⟨w.heap.size, 1, none⟩ = some (.string key.fName) := fun t => t.h.2.1
          have qc2 : ∀ t : Wd S, t.w.cell? ⟨w.heap.size, 2, none⟩ = some (.string key.fText) := fun t => t.h.2.2.1
          have qc3 : ∀ t : Wd S, t.w.cell? ⟨b, off + z * 3, none⟩ = some (.string x.fKind) := fun t => t.h.2.2.2.1
          have qc4 : ∀ t : Wd S, t.w.cell? ⟨b, off + z * 3 + 1, none⟩ = some (.string x.fName) := fun t => t.h.2.2.2.2.1
          have qc5 : ∀ t : Wd S, t.w.cell? ⟨b, off + z * 3 + 2, none⟩ = some (.string x.fText) := fun t => t.h.2.2.2.2.2.1
          have Q9 : Hid (∀ (t : Wd S) (w' : World), Below t.w.heap.size t.w w' → S w') := Lib.hid (fun t w' h => ⟨cell_later h t.h.1, cell_later h t.h.2.1, cell_later h t.h.2.2.1, cell_later h t.h.2.2.2.1, cell_later h t.h.2.2.2.2.1, cell_later h t.h.2.2.2.2.2.1, t.h.2.2.2.2.2.2.trans (h.mono t.h.2.2.2.2.2.2.size)⟩)
          have QE : Hid (∀ w', S w' → w'.cell? ⟨w.heap.size, 0, none⟩ = some (.string key.fKind) ∧ w'.cell? ⟨w.heap.size, 1, none⟩ = some (.string key.fName) ∧ w'.cell? ⟨w.heap.size, 2, none⟩ = some (.string key.fText) ∧ w'.cell? ⟨b, off + z * 3, none⟩ = some (.string x.fKind) ∧ w'.cell? ⟨b, off + z * 3 + 1, none⟩ = some (.string x.fName) ∧ w'.cell? ⟨b, off + z * 3 + 2, none⟩ = some (.string x.fText) ∧ Below w.heap.size w w') := Lib.hid (fun w' h => h)
          refine wp_region_class S (by kernel_rfl) (by kernel_rfl) hS ?_
          clear_value S
          repeat (go_big_quiet_step ((first | (go_at_call 39; exact class_call _ (hM.out _) (fun e w' h => ⟨h.1, Q9.out _ _ h.2⟩)))))
          refine wpQuiet_nil ?_
          rintro _ ⟨⟨w1, hw1⟩, rfl⟩
          have hE := QE.out _ hw1
          have hb2 := hE.2.2.2.2.2.2
          clear hE
          try dsimp only
          clear hw1 hS hne Q9 QE qc0 qc1 qc2 qc3 qc4 qc5
          go_wp2
          go_ret2
          exact ⟨by rw [HF'.out]; rfl, hb2⟩
        · have h0' : (cmpBl x key == 0) = false := by rw [beq_eq_false_iff_ne]; exact h0
          have HF' : Hid (foundB l key z = false) := Lib.hid (by rw [HF.out, decide_eq_false h0])
          clear HF h0
          go_wp2_with fail
          let S : World → Prop := fun w' => w'.cell? ⟨w.heap.size, 0, none⟩ = some (.string key.fKind) ∧ w'.cell? ⟨w.heap.size, 1, none⟩ = some (.string key.fName) ∧ w'.cell? ⟨w.heap.size, 2, none⟩ = some (.string key.fText) ∧ w'.cell? ⟨b, off + z * 3, none⟩ = some (.string x.fKind) ∧ w'.cell? ⟨b, off + z * 3 + 1, none⟩ = some (.string x.fName) ∧ w'.cell? ⟨b, off + z * 3 + 2, none⟩ = some (.string x.fText) ∧ Below w.heap.size w w'
          have hS : S (World.drew wr) := ⟨hk0, hk1, hk2, hc0, hc1, hc2, (hb).drew⟩
          have hne : Nonempty (Wd S) := ⟨⟨_, hS⟩⟩
          have qc0 : ∀ t : Wd S, t.w.cell? ⟨w.heap.size, 0, none⟩ = some (.string key.fKind) := fun t => t.h.1
          have qc1 : ∀ t : Wd S, t.w.cell? ⟨w.heap.size, 1, none⟩ = some (.string key.fName) := fun t => t.h.2.1
          have qc2 : ∀ t : Wd S, t.w.cell? ⟨w.heap.size, 2, none⟩ = some (.string key.fText) := fun t => t.h.2.2.1
          have qc3 : ∀ t : Wd S, t.w.cell? ⟨b, off + z * 3, none⟩ = some (.string x.fKind) := fun t => t.h.2.2.2.1
          have qc4 : ∀ t : Wd S, t.w.cell? ⟨b, off + z * 3 + 1, none⟩ = some (.string x.fName) := fun t => t.h.2.2.2.2.1
          have qc5 : ∀ t : Wd S, t.w.cell? ⟨b, off + z * 3 + 2, none⟩ = some (.string x.fText) := fun t => t.h.2.2.2.2.2.1
          have Q9 : Hid (∀ (t : Wd S) (w' : World), Below t.w.heap.size t.w w' → S w') := Lib.hid (fun t w' h => ⟨cell_later h t.h.1, cell_later h t.h.2.1, cell_later h t.h.2.2.1, cell_later h t.h.2.2.2.1, cell_later h t.h.2.2.2.2.1, cell_later h t.h.2.2.2.2.2.1, t.h.2.2.2.2.2.2.trans (h.mono t.h.2.2.2.2.2.2.size)⟩)
          have QE : Hid (∀ w', S w' → w'.cell? ⟨w.heap.size, 0, none⟩ = some (.string key.fKind) ∧ w'.cell? ⟨w.heap.size, 1, none⟩ = some (.string key.fName) ∧ w'.cell? ⟨w.heap.size, 2, none⟩ = some (.string key.fText) ∧ w'.cell? ⟨b, off + z * 3, none⟩ = some (.string x.fKind) ∧ w'.cell? ⟨b, off + z * 3 + 1, none⟩ = some (.string x.fName) ∧ w'.cell? ⟨b, off + z * 3 + 2, none⟩ = some (.string x.fText) ∧ Below w.heap.size w w') := Lib.hid (fun w' h => h)
          refine wp_region_class S (by kernel_rfl) (by kernel_rfl) hS ?_
          clear_value S
          repeat (go_big_quiet_step ((first | (go_at_call 39; exact class_call _ (hM.out _) (fun e w' h => ⟨h.1, Q9.out _ _ h.2⟩)))))
          refine wpQuiet_nil ?_
          rintro _ ⟨⟨w1, hw1⟩, rfl⟩
          have hE := QE.out _ hw1
          have hb2 := hE.2.2.2.2.2.2
          clear hE
          try dsimp only
          clear hw1 hS hne Q9 QE qc0 qc1 qc2 qc3 qc4 qc5
          go_wp2
          go_ret2
          exact ⟨by rw [HF'.out]; rfl, hb2⟩
      · have HF' : Hid (foundB l key z = false) := Lib.hid (by unfold foundB; rw [List.getElem?_eq_none (by have := Hl.out; omega)])
        go_wp2_with fail
        go_quiet (fail)
        go_wp2
        go_ret2
        exact ⟨by rw [HF'.out]; rfl, below_drewN hb _⟩
theorem i_blockOf (A : Option Addr) (n c : Nat) (l : List DBlock) (kd nm : ByteArray) (w : World) (hr : Rd blockE w A n l) (hn : n ≤ 8388608) (hs : SortedBl l) :
    Calls Try.prog 42 #[.slice A n c, .string kd, .string nm] w fun e w' => e = .returned (.tuple #[.int .i64 (posOf l (keyOf kd nm)), .bool (foundB l (keyOf kd nm) (posOf l (keyOf kd nm)))]) ∧ Below w.heap.size w w' := by
  have HS := Lib.hid hs; clear hs
  go_enter Try.func42, Try.ntmps42
  go_wp2_with fail
  refine (i_BinSearch A n c l (keyOf kd nm) _ _ hr hn (HS.out.parts _)).mono ?_
  rintro e w1 ⟨rfl, hb⟩
  go_wp2
  go_ret2
  exact ⟨rfl, hb⟩

set_option maxHeartbeats 1000000 in
theorem s_l29Find (A : Option Addr) (n c : Nat) (l : List DBlock) (kd nm : ByteArray) (w : World) (hr : Rd blockE w A n l) (hn : n ≤ 8388608) (hs : SortedBl l) :
    Calls Try.prog 41 #[.slice A n c, .string kd, .string nm] w fun e w' => e = .returned (.int .i64 (findIx l kd nm)) ∧ Below w.heap.size w w' := by
  have Hl := Lib.hid hr.1
  have HS := Lib.hid hs; clear hs
  go_enter Try.func41, Try.ntmps41
  go_wp2_with fail
  go_loopw [7] (fun i wr => ∃ k : Nat, k ≤ n ∧ i = .int .i64 k ∧ Below w.heap.size w wr ∧ Hid (∀ (j : Nat) (x : DBlock), j < k → l[j]? = some x → isAt x kd nm = false)) (fun i _ => n - (intOf i).toNat)
  case atStart => exact ⟨0, Nat.zero_le _, rfl, Below.refl _ _, Lib.hid (fun j x h => absurd h (Nat.not_lt_zero _))⟩
  case round =>
    obtain ⟨k, hk, rfl, hb, HH⟩ := hrel
    by_cases hlt : k < n
    · obtain ⟨b, off, rfl, hcs⟩ := hr.2 (by omega)
      obtain ⟨x, hx⟩ : ∃ x, l[k]? = some x := ⟨_, List.getElem?_eq_getElem (by have := Hl.out; omega)⟩
      have hcr := range_below (B := 0) (hcs k x hx) hb
      have hc0 := hcr 0 (.string x.fKind) rfl
      have hc1 := hcr 1 (.string x.fName) rfl
      simp only [blockE, Nat.add_zero] at hc0 hc1
      have HX := Lib.hid hx
      clear hcr hcs hx
      rcases h1 : x.fKind.toList == kd.toList with _ | _
      · have HN : Hid (∀ (j : Nat) (y : DBlock), j < k + 1 → l[j]? = some y → isAt y kd nm = false) := Lib.hid (fun j y hj hy => by
          rcases Nat.lt_or_ge j k with h | h
          · exact HH.out j y h hy
          · obtain rfl : j = k := by omega
            rw [HX.out] at hy; cases hy
            rw [isAt_eq, h1]; rfl)
        go_wp2
        first | (refine ⟨⟨k + 1, by omega, by go_num, hb, HN⟩, ?_⟩; (simp [intOf]; omega)) | (go_roundw; (case rel => exact ⟨k + 1, by omega, by go_num, hb, HN⟩); (case measure => (simp [intOf]; omega)))
      · rcases h2 : x.fName.toList == nm.toList with _ | _
        · have HN : Hid (∀ (j : Nat) (y : DBlock), j < k + 1 → l[j]? = some y → isAt y kd nm = false) := Lib.hid (fun j y hj hy => by
            rcases Nat.lt_or_ge j k with h | h
            · exact HH.out j y h hy
            · obtain rfl : j = k := by omega
              rw [HX.out] at hy; cases hy
              rw [isAt_eq, h1, h2]; rfl)
          go_wp2
          first | (refine ⟨⟨k + 1, by omega, by go_num, hb, HN⟩, ?_⟩; (simp [intOf]; omega)) | (go_roundw; (case rel => exact ⟨k + 1, by omega, by go_num, hb, HN⟩); (case measure => (simp [intOf]; omega)))
        · have E : Hid (findIx l kd nm = k) := Lib.hid (findIx_at HS.out HX.out (by rw [isAt_eq, h1, h2]; rfl))
          go_wp2
          go_ret
          exact ⟨ret_int E.out.symm, hb⟩
    · have E : Hid (findIx l kd nm = -1) := Lib.hid (findIx_none (fun i x hx => HH.out i x (by have := (List.getElem?_eq_some_iff.1 hx).1; have := Hl.out; omega) hx))
      go_wp2
      go_ret
      exact ⟨ret_int E.out.symm, hb⟩

def bnText (l : List DBlock) (kd nm : ByteArray) : ByteArray := if blocksB l then (if foundB l (keyOf kd nm) (posOf l (keyOf kd nm)) then ((l[posOf l (keyOf kd nm)]?).getD (keyOf kd nm)).fText else ⟨#[]⟩) else ⟨#[]⟩
def bnCode (l : List DBlock) (kd nm : ByteArray) : Int := if blocksB l then (if foundB l (keyOf kd nm) (posOf l (keyOf kd nm)) then 0 else 3) else 1
theorem found_get {l : List DBlock} {key : DBlock} {p : Nat} (h : foundB l key p = true) : ∃ x, l[p]? = some x ∧ cmpBl x key = 0 := by
  unfold foundB at h
  cases hx : l[p]? with
  | none => rw [hx] at h; cases h
  | some x => rw [hx] at h; exact ⟨x, rfl, by simpa using h⟩
theorem ret_sc {s t : ByteArray} {c d : Int} (h : s = t) (h' : c = d) : Ending.returned (.tuple #[.string s, .int .i64 c]) = .returned (.tuple #[.string t, .int .i64 d]) := by rw [h, h']
set_option maxHeartbeats 1000000 in
theorem S_BlockNamed (A : Option Addr) (n c : Nat) (l : List DBlock) (kd nm : ByteArray) (w : World) (hr : Rd blockE w A n l) (hn : n ≤ 1048576) (hg : ∀ x ∈ l, x.good) (hsum : sumBlock l ≤ 1048576) (hz1 : kd.size ≤ 1048576) (hz2 : nm.size ≤ 1048576) :
    Calls Try.prog 19 #[.slice A n c, .string kd, .string nm] w fun e w' => e = .returned (.tuple #[.string (bnText l kd nm), .int .i64 (bnCode l kd nm)]) ∧ Below w.heap.size w w' := by
  have Hl := Lib.hid hr.1
  go_enter Try.func19, Try.ntmps19
  go_wp2_with fail
  refine (s_l29Ok A n c l _ hr (by unfold maxLen; omega) hg).mono ?_
  rintro e w1 ⟨rfl, hb1⟩
  rcases hB : blocksB l with _ | _
  · have E1 : Hid (bnText l kd nm = ⟨#[]⟩) := Lib.hid (by unfold bnText; rw [hB]; rfl)
    have E2 : Hid (bnCode l kd nm = 1) := Lib.hid (by unfold bnCode; rw [hB]; rfl)
    clear hB
    go_wp2
    go_ret2
    exact ⟨ret_sc E1.out.symm E2.out.symm, hb1⟩
  · have HB := Lib.hid hB; clear hB
    go_wp2_with fail
    refine (s_l29Find A n c l kd nm _ (hr.below hb1) (by omega) (sorted_of_blocks HB.out)).mono ?_
    rintro e w2 ⟨rfl, hb⟩
    replace hb1 := hb1.trans (hb.mono hb1.size); clear hb
    rcases hF : foundB l (keyOf kd nm) (posOf l (keyOf kd nm)) with _ | _
    · have E1 : Hid (bnText l kd nm = ⟨#[]⟩) := Lib.hid (by unfold bnText; rw [HB.out, hF]; rfl)
      have E2 : Hid (bnCode l kd nm = 3) := Lib.hid (by unfold bnCode; rw [HB.out, hF]; rfl)
      have E3 : findIx l kd nm = -1 := by unfold findIx; rw [hF]; rfl
      rw [E3]
      clear hF E3
      go_wp2
      go_ret2
      exact ⟨ret_sc E1.out.symm E2.out.symm, hb1⟩
    · obtain ⟨x, hx, _⟩ := found_get hF
      obtain ⟨p, hp⟩ : ∃ p, posOf l (keyOf kd nm) = p := ⟨_, rfl⟩
      have E1 : Hid (bnText l kd nm = x.fText) := Lib.hid (by unfold bnText; rw [HB.out, hF, hx]; rfl)
      have E2 : Hid (bnCode l kd nm = 0) := Lib.hid (by unfold bnCode; rw [HB.out, hF]; rfl)
      have E3 : findIx l kd nm = p := by unfold findIx; rw [hF, hp]; rfl
      rw [E3]
      rw [hp] at hx
      clear hF E3 hp
      have hpn : p < n := by have := (List.getElem?_eq_some_iff.1 hx).1; have := Hl.out; omega
      obtain ⟨b, off, rfl, hcs⟩ := hr.2 (by omega)
      have hc2 := range_below (B := 0) (hcs p x hx) hb1 2 (.string x.fText) rfl
      simp only [blockE] at hc2
      clear hcs hx
      go_wp2
      go_ret2
      exact ⟨ret_sc E1.out.symm E2.out.symm, hb1⟩

set_option maxHeartbeats 1000000 in
theorem I_BlockNamed (A : Option Addr) (n c : Nat) (l : List DBlock) (kd nm : ByteArray) (w : World) (hr : Rd blockE w A n l) (hn : n ≤ 1048576) (hg : ∀ x ∈ l, x.good) (hsum : sumBlock l ≤ 1048576) (hz1 : kd.size ≤ 1048576) (hz2 : nm.size ≤ 1048576) :
    Calls Try.prog 20 #[.slice A n c, .string kd, .string nm] w fun e w' => e = .returned (.tuple #[.string (bnText l kd nm), .int .i64 (bnCode l kd nm)]) ∧ Below w.heap.size w w' := by
  have Hl := Lib.hid hr.1
  go_enter Try.func20, Try.ntmps20
  go_wp2_with fail
  refine (i_ValidBlocks A n c l _ hr (by unfold maxLen; omega) hg).mono ?_
  rintro e w1 ⟨rfl, hb1⟩
  rcases hB : blocksB l with _ | _
  · have E1 : Hid (bnText l kd nm = ⟨#[]⟩) := Lib.hid (by unfold bnText; rw [hB]; rfl)
    have E2 : Hid (bnCode l kd nm = 1) := Lib.hid (by unfold bnCode; rw [hB]; rfl)
    clear hB
    go_wp2
    go_ret2
    exact ⟨ret_sc E1.out.symm E2.out.symm, hb1⟩
  · have HB := Lib.hid hB; clear hB
    go_wp2_with fail
    refine (i_blockOf A n c l kd nm _ (hr.below hb1) (by omega) (sorted_of_blocks HB.out)).mono ?_
    rintro e w2 ⟨rfl, hb⟩
    replace hb1 := hb1.trans (hb.mono hb1.size); clear hb
    rcases hF : foundB l (keyOf kd nm) (posOf l (keyOf kd nm)) with _ | _
    · have E1 : Hid (bnText l kd nm = ⟨#[]⟩) := Lib.hid (by unfold bnText; rw [HB.out, hF]; rfl)
      have E2 : Hid (bnCode l kd nm = 3) := Lib.hid (by unfold bnCode; rw [HB.out, hF]; rfl)
      clear hF
      go_wp2
      go_ret2
      exact ⟨ret_sc E1.out.symm E2.out.symm, hb1⟩
    · obtain ⟨x, hx, _⟩ := found_get hF
      obtain ⟨p, hp⟩ : ∃ p, posOf l (keyOf kd nm) = p := ⟨_, rfl⟩
      have E1 : Hid (bnText l kd nm = x.fText) := Lib.hid (by unfold bnText; rw [HB.out, hF, hx]; rfl)
      have E2 : Hid (bnCode l kd nm = 0) := Lib.hid (by unfold bnCode; rw [HB.out, hF]; rfl)
      rw [hp] at hx ⊢
      clear hF hp
      have hpn : p < n := by have := (List.getElem?_eq_some_iff.1 hx).1; have := Hl.out; omega
      obtain ⟨b, off, rfl, hcs⟩ := hr.2 (by omega)
      have hc2 := range_below (B := 0) (hcs p x hx) hb1 2 (.string x.fText) rfl
      simp only [blockE] at hc2
      clear hcs hx
      go_wp2
      go_ret2
      exact ⟨ret_sc E1.out.symm E2.out.symm, hb1⟩

end Go.Proofs.Ytnbeomceiealdaa
