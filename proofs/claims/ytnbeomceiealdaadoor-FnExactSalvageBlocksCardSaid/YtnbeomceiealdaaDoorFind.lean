/- Where a block is in a list of blocks in order. -/
import Derived.Test.YtnbeomceiealdaaDoorRows
import Derived.Test.YtnbeomceiealdaaDoorBlocks
import Derived.Test.YtnbeomceiealdaaDoorSorted
namespace Go.Proofs.YtnbeomceiealdaaDoor
set_option linter.unusedVariables false
set_option linter.unusedSimpArgs false
set_option linter.unusedSectionVars false
open Go.RowKit
set_option maxRecDepth 100000

theorem w64_in (n : Int) (h : -9223372036854775808 ≤ n ∧ n ≤ 9223372036854775807) : wrap64 n = n := by unfold wrap64; omega
theorem u64_in (n : Int) (h : 0 ≤ n ∧ n ≤ 18446744073709551615) : IntKind.u64.wrap n = n := by
  simp [IntKind.wrap, IntKind.bits, IntKind.signed]
  omega
theorem cmpBl_vals (x y : DBlock) : cmpBl x y = -1 ∨ cmpBl x y = 0 ∨ cmpBl x y = 1 := by
  unfold cmpBl
  split
  · exact cmpS_vals _ _
  · exact cmpS_vals _ _

set_option maxHeartbeats 4000000 in
theorem i_BinSearch (A : Option Addr) (n c : Nat) (l : List DBlock) (key : DBlock) (p : Nat) (w : World) (hr : Rd blockE w A n l) (hn : n ≤ 8388608) (hp : PartsAt l key p) :
    Calls Tryd.prog 65 #[.slice A n c, .agg #[.string key.fKind, .string key.fName, .string key.fText], .func (.func 41) #[] #[]] w fun e w' => e = .returned (.tuple #[.int .i64 p, .bool (foundB l key p)]) ∧ Below w.heap.size w w' := by
  have Hl := Lib.hid hr.1
  have hpn : p ≤ n := by have := hp.le; rw [Hl.out] at this; exact this
  have HP := Lib.hid hp; clear hp
  have hcx := range_new w #[.string key.fKind, .string key.fName, .string key.fText] 42
  have hx0 := hcx 0 (.string key.fKind) rfl
  have hx1 := hcx 1 (.string key.fName) rfl
  have hx2 := hcx 2 (.string key.fText) rfl
  simp only [Nat.zero_add] at hx0 hx1 hx2
  have hb0 : Below w.heap.size w (w.alloc (.cells #[.string key.fKind, .string key.fName, .string key.fText] 42)) := by (repeat (first | exact Below.refl _ _ | assumption | refine Below.drew ?_ | refine Below.alloc ?_ (by first | omega | (simp; done) | (simp; omega) | exact Below.size (by assumption)) _ | refine Below.setCell ?_ (by first | omega | (simp; done) | (simp; omega)) _))
  clear hcx
  go_enter Tryd.func65, Tryd.ntmps65
  go_wp2_with fail
  go_loopw [9, 10] (fun i j wr => ∃ (a z : Nat), a ≤ p ∧ p ≤ z ∧ z ≤ n ∧ i = .int .i64 a ∧ j = .int .i64 z ∧ Below w.heap.size w wr ∧ wr.cell? ⟨w.heap.size, 0, none⟩ = some (.string key.fKind) ∧ wr.cell? ⟨w.heap.size, 1, none⟩ = some (.string key.fName) ∧ wr.cell? ⟨w.heap.size, 2, none⟩ = some (.string key.fText)) (fun i j _ => (intOf j).toNat - (intOf i).toNat)
  case atStart => exact ⟨0, n, Nat.zero_le _, hpn, Nat.le_refl _, rfl, rfl, hb0, hx0, hx1, hx2⟩
  case round =>
    obtain ⟨a, z, ha, hz, hzn, rfl, rfl, hb, hk0, hk1, hk2⟩ := hrel
    by_cases hlt : a < z
    · obtain ⟨m, hm⟩ : ∃ m, (a + z) / 2 = m := ⟨_, rfl⟩
      have hm1 : a ≤ m := by omega
      have hm2 : m < z := by omega
      obtain ⟨b, off, rfl, hcs⟩ := hr.2 (by omega)
      obtain ⟨x, hx⟩ : ∃ x, l[m]? = some x := ⟨_, List.getElem?_eq_getElem (by have := Hl.out; omega)⟩
      have hcr := range_below (B := 0) (hcs m x hx) hb
      have hc0 := hcr 0 (.string x.fKind) rfl
      have hc1 := hcr 1 (.string x.fName) rfl
      have hc2 := hcr 2 (.string x.fText) rfl
      simp only [blockE, Nat.add_zero] at hc0 hc1 hc2
      clear hcr hcs
      have hM : Hid (∀ W, Calls Tryd.prog 41 #[.agg #[.string x.fKind, .string x.fName, .string x.fText], .agg #[.string key.fKind, .string key.fName, .string key.fText]] W fun e w' => e = .returned (.int .i64 (cmpBl x key)) ∧ Below W.heap.size W w') := Lib.hid (fun W => i_Block_compare x key W)
      have hmm : wrap64 (IntKind.u64.wrap (wrap64 ((a : Int) + z)) / 2) = m := by
        rw [w64_in ((a : Int) + z) (by omega), u64_in ((a : Int) + z) (by omega), w64_in (((a : Int) + z) / 2) (by omega)]
        omega
      by_cases hlt0 : cmpBl x key < 0
      · have hmp : m < p := by rcases Nat.lt_or_ge m p with h | h; exact h; exact absurd hlt0 (HP.out.hi m x h hx)
        clear hx
        go_wp2_with fail
        let S : World → Prop := fun w' => w'.cell? ⟨w.heap.size, 0, none⟩ = some (.string key.fKind) ∧ w'.cell? ⟨w.heap.size, 1, none⟩ = some (.string key.fName) ∧ w'.cell? ⟨w.heap.size, 2, none⟩ = some (.string key.fText) ∧ w'.cell? ⟨b, off + m * 3, none⟩ = some (.string x.fKind) ∧ w'.cell? ⟨b, off + m * 3 + 1, none⟩ = some (.string x.fName) ∧ w'.cell? ⟨b, off + m * 3 + 2, none⟩ = some (.string x.fText) ∧ Below w.heap.size w w'
        have hS : S (World.drew wr) := ⟨hk0, hk1, hk2, hc0, hc1, hc2, (hb).drew⟩
        have hne : Nonempty (Wd S) := ⟨⟨_, hS⟩⟩
        have qc0 : ∀ t : Wd S, t.w.cell? ⟨w.heap.size, 0, none⟩ = some (.string key.fKind) := fun t => t.h.1
        have qc1 : ∀ t : Wd S, t.w.cell? ⟨w.heap.size, 1, none⟩ = some (.string key.fName) := fun t => t.h.2.1
        have qc2 : ∀ t : Wd S, t.w.cell? ⟨w.heap.size, 2, none⟩ = some (.string key.fText) := fun t => t.h.2.2.1
        have qc3 : ∀ t : Wd S, t.w.cell? ⟨b, off + m * 3, none⟩ = some (.string x.fKind) := fun t => t.h.2.2.2.1
        have qc4 : ∀ t : Wd S, t.w.cell? ⟨b, off + m * 3 + 1, none⟩ = some (.string x.fName) := fun t => t.h.2.2.2.2.1
        have qc5 : ∀ t : Wd S, t.w.cell? ⟨b, off + m * 3 + 2, none⟩ = some (.string x.fText) := fun t => t.h.2.2.2.2.2.1
        have Q9 : Hid (∀ (t : Wd S) (w' : World), Below t.w.heap.size t.w w' → S w') := Lib.hid (fun t w' h => ⟨cell_later h t.h.1, cell_later h t.h.2.1, cell_later h t.h.2.2.1, cell_later h t.h.2.2.2.1, cell_later h t.h.2.2.2.2.1, cell_later h t.h.2.2.2.2.2.1, t.h.2.2.2.2.2.2.trans (h.mono t.h.2.2.2.2.2.2.size)⟩)
        have QE : Hid (∀ w', S w' → w'.cell? ⟨w.heap.size, 0, none⟩ = some (.string key.fKind) ∧ w'.cell? ⟨w.heap.size, 1, none⟩ = some (.string key.fName) ∧ w'.cell? ⟨w.heap.size, 2, none⟩ = some (.string key.fText) ∧ w'.cell? ⟨b, off + m * 3, none⟩ = some (.string x.fKind) ∧ w'.cell? ⟨b, off + m * 3 + 1, none⟩ = some (.string x.fName) ∧ w'.cell? ⟨b, off + m * 3 + 2, none⟩ = some (.string x.fText) ∧ Below w.heap.size w w') := Lib.hid (fun w' h => h)
        refine wp_region_class S (by kernel_rfl) (by kernel_rfl) hS ?_
        clear_value S
        repeat (go_big_quiet_step ((first | (go_at_call 41; exact class_call _ (hM.out _) (fun e w' h => ⟨h.1, Q9.out _ _ h.2⟩)))))
        refine wpQuiet_nil ?_
        rintro _ ⟨⟨w1, hw1⟩, rfl⟩
        obtain ⟨hk0', hk1', hk2', hcc0, hcc1, hcc2, hb2⟩ := QE.out _ hw1
        try dsimp only
        clear hw1 hS hne Q9 QE qc0 qc1 qc2 qc3 qc4 qc5
        clear hcc0 hcc1 hcc2 hk0 hk1 hk2 hc0 hc1 hc2
        go_wp2
        first | (refine ⟨⟨m + 1, z, by omega, by omega, by omega, by go_num, rfl, hb2, hk0', hk1', hk2'⟩, ?_⟩; (simp [intOf]; omega)) | (go_roundw; (case rel => first | exact ⟨m + 1, z, by omega, by omega, by omega, by go_num, rfl, hb2, hk0', hk1', hk2'⟩ | ((try refine ⟨trivial, ?_⟩); (repeat apply Exists.intro); exact ⟨⟨m + 1, z, by omega, by omega, by omega, by go_num, rfl, hb2, hk0', hk1', hk2'⟩, rfl⟩)); (case measure => (simp [intOf]; omega)))
      · have hmp : p ≤ m := by rcases Nat.lt_or_ge m p with h | h; exact absurd (HP.out.lo m x h hx) hlt0; exact h
        clear hx
        go_wp2_with fail
        let S : World → Prop := fun w' => w'.cell? ⟨w.heap.size, 0, none⟩ = some (.string key.fKind) ∧ w'.cell? ⟨w.heap.size, 1, none⟩ = some (.string key.fName) ∧ w'.cell? ⟨w.heap.size, 2, none⟩ = some (.string key.fText) ∧ w'.cell? ⟨b, off + m * 3, none⟩ = some (.string x.fKind) ∧ w'.cell? ⟨b, off + m * 3 + 1, none⟩ = some (.string x.fName) ∧ w'.cell? ⟨b, off + m * 3 + 2, none⟩ = some (.string x.fText) ∧ Below w.heap.size w w'
        have hS : S (World.drew wr) := ⟨hk0, hk1, hk2, hc0, hc1, hc2, (hb).drew⟩
        have hne : Nonempty (Wd S) := ⟨⟨_, hS⟩⟩
        have qc0 : ∀ t : Wd S, t.w.cell? ⟨w.heap.size, 0, none⟩ = some (.string key.fKind) := fun t => t.h.1
        have qc1 : ∀ t : Wd S, t.w.cell? ⟨w.heap.size, 1, none⟩ = some (.string key.fName) := fun t => t.h.2.1
        have qc2 : ∀ t : Wd S, t.w.cell? ⟨w.heap.size, 2, none⟩ = some (.string key.fText) := fun t => t.h.2.2.1
        have qc3 : ∀ t : Wd S, t.w.cell? ⟨b, off + m * 3, none⟩ = some (.string x.fKind) := fun t => t.h.2.2.2.1
        have qc4 : ∀ t : Wd S, t.w.cell? ⟨b, off + m * 3 + 1, none⟩ = some (.string x.fName) := fun t => t.h.2.2.2.2.1
        have qc5 : ∀ t : Wd S, t.w.cell? ⟨b, off + m * 3 + 2, none⟩ = some (.string x.fText) := fun t => t.h.2.2.2.2.2.1
        have Q9 : Hid (∀ (t : Wd S) (w' : World), Below t.w.heap.size t.w w' → S w') := Lib.hid (fun t w' h => ⟨cell_later h t.h.1, cell_later h t.h.2.1, cell_later h t.h.2.2.1, cell_later h t.h.2.2.2.1, cell_later h t.h.2.2.2.2.1, cell_later h t.h.2.2.2.2.2.1, t.h.2.2.2.2.2.2.trans (h.mono t.h.2.2.2.2.2.2.size)⟩)
        have QE : Hid (∀ w', S w' → w'.cell? ⟨w.heap.size, 0, none⟩ = some (.string key.fKind) ∧ w'.cell? ⟨w.heap.size, 1, none⟩ = some (.string key.fName) ∧ w'.cell? ⟨w.heap.size, 2, none⟩ = some (.string key.fText) ∧ w'.cell? ⟨b, off + m * 3, none⟩ = some (.string x.fKind) ∧ w'.cell? ⟨b, off + m * 3 + 1, none⟩ = some (.string x.fName) ∧ w'.cell? ⟨b, off + m * 3 + 2, none⟩ = some (.string x.fText) ∧ Below w.heap.size w w') := Lib.hid (fun w' h => h)
        refine wp_region_class S (by kernel_rfl) (by kernel_rfl) hS ?_
        clear_value S
        repeat (go_big_quiet_step ((first | (go_at_call 41; exact class_call _ (hM.out _) (fun e w' h => ⟨h.1, Q9.out _ _ h.2⟩)))))
        refine wpQuiet_nil ?_
        rintro _ ⟨⟨w1, hw1⟩, rfl⟩
        obtain ⟨hk0', hk1', hk2', hcc0, hcc1, hcc2, hb2⟩ := QE.out _ hw1
        try dsimp only
        clear hw1 hS hne Q9 QE qc0 qc1 qc2 qc3 qc4 qc5
        clear hcc0 hcc1 hcc2 hk0 hk1 hk2 hc0 hc1 hc2
        go_wp2
        first | (refine ⟨⟨a, m, by omega, by omega, by omega, rfl, by congr 1; omega, hb2, hk0', hk1', hk2'⟩, ?_⟩; (simp [intOf]; omega)) | (go_roundw; (case rel => first | exact ⟨a, m, by omega, by omega, by omega, rfl, by congr 1; omega, hb2, hk0', hk1', hk2'⟩ | ((try refine ⟨trivial, ?_⟩); (repeat apply Exists.intro); exact ⟨⟨a, m, by omega, by omega, by omega, rfl, by congr 1; omega, hb2, hk0', hk1', hk2'⟩, rfl⟩)); (case measure => (simp [intOf]; omega)))
    · obtain rfl : a = p := by omega
      obtain rfl : z = a := by omega
      by_cases hpn' : z < n
      · obtain ⟨b, off, rfl, hcs⟩ := hr.2 (by omega)
        obtain ⟨x, hx⟩ : ∃ x, l[z]? = some x := ⟨_, List.getElem?_eq_getElem (by have := Hl.out; omega)⟩
        have hcr := range_below (B := 0) (hcs z x hx) hb
        have hc0 := hcr 0 (.string x.fKind) rfl
        have hc1 := hcr 1 (.string x.fName) rfl
        have hc2 := hcr 2 (.string x.fText) rfl
        simp only [blockE, Nat.add_zero] at hc0 hc1 hc2
        have HF : Hid (foundB l key z = decide (cmpBl x key = 0)) := Lib.hid (by unfold foundB; rw [hx])
        clear hcr hcs hx
        have hM : Hid (∀ W, Calls Tryd.prog 41 #[.agg #[.string x.fKind, .string x.fName, .string x.fText], .agg #[.string key.fKind, .string key.fName, .string key.fText]] W fun e w' => e = .returned (.int .i64 (cmpBl x key)) ∧ Below W.heap.size W w') := Lib.hid (fun W => i_Block_compare x key W)
        by_cases h0 : cmpBl x key = 0
        · rw [h0] at hM
          have HF' : Hid (foundB l key z = true) := Lib.hid (by rw [HF.out, decide_eq_true h0])
          clear HF h0
          go_wp2_with fail
          let S : World → Prop := fun w' => w'.cell? ⟨w.heap.size, 0, none⟩ = some (.string key.fKind) ∧ w'.cell? ⟨w.heap.size, 1, none⟩ = some (.string key.fName) ∧ w'.cell? ⟨w.heap.size, 2, none⟩ = some (.string key.fText) ∧ w'.cell? ⟨b, off + z * 3, none⟩ = some (.string x.fKind) ∧ w'.cell? ⟨b, off + z * 3 + 1, none⟩ = some (.string x.fName) ∧ w'.cell? ⟨b, off + z * 3 + 2, none⟩ = some (.string x.fText) ∧ Below w.heap.size w w'
          have hS : S (World.drew wr) := ⟨hk0, hk1, hk2, hc0, hc1, hc2, (hb).drew⟩
          have hne : Nonempty (Wd S) := ⟨⟨_, hS⟩⟩
          have qc0 : ∀ t : Wd S, t.w.cell? ⟨w.heap.size, 0, none⟩ = some (.string key.fKind) := fun t => t.h.1
          have qc1 : ∀ t : Wd S, t.w.cell? ⟨w.heap.size, 1, none⟩ = some (.string key.fName) := fun t => t.h.2.1
          have qc2 : ∀ t : Wd S, t.w.cell? ⟨w.heap.size, 2, none⟩ = some (.string key.fText) := fun t => t.h.2.2.1
          have qc3 : ∀ t : Wd S, t.w.cell? ⟨b, off + z * 3, none⟩ = some (.string x.fKind) := fun t => t.h.2.2.2.1
          have qc4 : ∀ t : Wd S, t.w.cell? ⟨b, off + z * 3 + 1, none⟩ = some (.string x.fName) := fun t => t.h.2.2.2.2.1
          have qc5 : ∀ t : Wd S, t.w.cell? ⟨b, off + z * 3 + 2, none⟩ = some (.string x.fText) := fun t => t.h.2.2.2.2.2.1
          have Q9 : Hid (∀ (t : Wd S) (w' : World), Below t.w.heap.size t.w w' → S w') := Lib.hid (fun t w' h => ⟨cell_later h t.h.1, cell_later h t.h.2.1, cell_later h t.h.2.2.1, cell_later h t.h.2.2.2.1, cell_later h t.h.2.2.2.2.1, cell_later h t.h.2.2.2.2.2.1, t.h.2.2.2.2.2.2.trans (h.mono t.h.2.2.2.2.2.2.size)⟩)
          have QE : Hid (∀ w', S w' → w'.cell? ⟨w.heap.size, 0, none⟩ = some (.string key.fKind) ∧ w'.cell? ⟨w.heap.size, 1, none⟩ = some (.string key.fName) ∧ w'.cell? ⟨w.heap.size, 2, none⟩ = some (.string key.fText) ∧ w'.cell? ⟨b, off + z * 3, none⟩ = some (.string x.fKind) ∧ w'.cell? ⟨b, off + z * 3 + 1, none⟩ = some (.string x.fName) ∧ w'.cell? ⟨b, off + z * 3 + 2, none⟩ = some (.string x.fText) ∧ Below w.heap.size w w') := Lib.hid (fun w' h => h)
          refine wp_region_class S (by kernel_rfl) (by kernel_rfl) hS ?_
          clear_value S
          repeat (go_big_quiet_step ((first | (go_at_call 41; exact class_call _ (hM.out _) (fun e w' h => ⟨h.1, Q9.out _ _ h.2⟩)))))
          refine wpQuiet_nil ?_
          rintro _ ⟨⟨w1, hw1⟩, rfl⟩
          have hE := QE.out _ hw1
          have hb2 := hE.2.2.2.2.2.2
          clear hE
          try dsimp only
          clear hw1 hS hne Q9 QE qc0 qc1 qc2 qc3 qc4 qc5
          go_wp2
          go_ret2
          exact ⟨by rw [HF'.out]; rfl, hb2⟩
        · have h0' : (cmpBl x key == 0) = false := by rw [beq_eq_false_iff_ne]; exact h0
          have HF' : Hid (foundB l key z = false) := Lib.hid (by rw [HF.out, decide_eq_false h0])
          clear HF h0
          go_wp2_with fail
          let S : World → Prop := fun w' => w'.cell? ⟨w.heap.size, 0, none⟩ = some (.string key.fKind) ∧ w'.cell? ⟨w.heap.size, 1, none⟩ = some (.string key.fName) ∧ w'.cell? ⟨w.heap.size, 2, none⟩ = some (.string key.fText) ∧ w'.cell? ⟨b, off + z * 3, none⟩ = some (.string x.fKind) ∧ w'.cell? ⟨b, off + z * 3 + 1, none⟩ = some (.string x.fName) ∧ w'.cell? ⟨b, off + z * 3 + 2, none⟩ = some (.string x.fText) ∧ Below w.heap.size w w'
          have hS : S (World.drew wr) := ⟨hk0, hk1, hk2, hc0, hc1, hc2, (hb).drew⟩
          have hne : Nonempty (Wd S) := ⟨⟨_, hS⟩⟩
          have qc0 : ∀ t : Wd S, t.w.cell? ⟨w.heap.size, 0, none⟩ = some (.string key.fKind) := fun t => t.h.1
          have qc1 : ∀ t : Wd S, t.w.cell? ⟨w.heap.size, 1, none⟩ = some (.string key.fName) := fun t => t.h.2.1
          have qc2 : ∀ t : Wd S, t.w.cell? ⟨w.heap.size, 2, none⟩ = some (.string key.fText) := fun t => t.h.2.2.1
          have qc3 : ∀ t : Wd S, t.w.cell? ⟨b, off + z * 3, none⟩ = some (.string x.fKind) := fun t => t.h.2.2.2.1
          have qc4 : ∀ t : Wd S, t.w.cell? ⟨b, off + z * 3 + 1, none⟩ = some (.string x.fName) := fun t => t.h.2.2.2.2.1
          have qc5 : ∀ t : Wd S, t.w.cell? ⟨b, off + z * 3 + 2, none⟩ = some (.string x.fText) := fun t => t.h.2.2.2.2.2.1
          have Q9 : Hid (∀ (t : Wd S) (w' : World), Below t.w.heap.size t.w w' → S w') := Lib.hid (fun t w' h => ⟨cell_later h t.h.1, cell_later h t.h.2.1, cell_later h t.h.2.2.1, cell_later h t.h.2.2.2.1, cell_later h t.h.2.2.2.2.1, cell_later h t.h.2.2.2.2.2.1, t.h.2.2.2.2.2.2.trans (h.mono t.h.2.2.2.2.2.2.size)⟩)
          have QE : Hid (∀ w', S w' → w'.cell? ⟨w.heap.size, 0, none⟩ = some (.string key.fKind) ∧ w'.cell? ⟨w.heap.size, 1, none⟩ = some (.string key.fName) ∧ w'.cell? ⟨w.heap.size, 2, none⟩ = some (.string key.fText) ∧ w'.cell? ⟨b, off + z * 3, none⟩ = some (.string x.fKind) ∧ w'.cell? ⟨b, off + z * 3 + 1, none⟩ = some (.string x.fName) ∧ w'.cell? ⟨b, off + z * 3 + 2, none⟩ = some (.string x.fText) ∧ Below w.heap.size w w') := Lib.hid (fun w' h => h)
          refine wp_region_class S (by kernel_rfl) (by kernel_rfl) hS ?_
          clear_value S
          repeat (go_big_quiet_step ((first | (go_at_call 41; exact class_call _ (hM.out _) (fun e w' h => ⟨h.1, Q9.out _ _ h.2⟩)))))
          refine wpQuiet_nil ?_
          rintro _ ⟨⟨w1, hw1⟩, rfl⟩
          have hE := QE.out _ hw1
          have hb2 := hE.2.2.2.2.2.2
          clear hE
          try dsimp only
          clear hw1 hS hne Q9 QE qc0 qc1 qc2 qc3 qc4 qc5
          go_wp2
          go_ret2
          exact ⟨by rw [HF'.out]; rfl, hb2⟩
      · have HF' : Hid (foundB l key z = false) := Lib.hid (by unfold foundB; rw [List.getElem?_eq_none (by have := Hl.out; omega)])
        go_wp2_with fail
        go_quiet (fail)
        go_wp2
        go_ret2
        exact ⟨by rw [HF'.out]; rfl, below_drewN hb _⟩
theorem i_blockOf (A : Option Addr) (n c : Nat) (l : List DBlock) (kd nm : ByteArray) (w : World) (hr : Rd blockE w A n l) (hn : n ≤ 8388608) (hs : SortedBl l) :
    Calls Tryd.prog 52 #[.slice A n c, .string kd, .string nm] w fun e w' => e = .returned (.tuple #[.int .i64 (posOf l (keyOf kd nm)), .bool (foundB l (keyOf kd nm) (posOf l (keyOf kd nm)))]) ∧ Below w.heap.size w w' := by
  have HS := Lib.hid hs; clear hs
  go_enter Tryd.func52, Tryd.ntmps52
  go_wp2_with fail
  refine (i_BinSearch A n c l (keyOf kd nm) _ _ hr hn (HS.out.parts _)).mono ?_
  rintro e w1 ⟨rfl, hb⟩
  go_wp2
  go_ret2
  exact ⟨rfl, hb⟩

def bnText (l : List DBlock) (kd nm : ByteArray) : ByteArray := if blocksB l then (if foundB l (keyOf kd nm) (posOf l (keyOf kd nm)) then ((l[posOf l (keyOf kd nm)]?).getD (keyOf kd nm)).fText else ⟨#[]⟩) else ⟨#[]⟩
def bnCode (l : List DBlock) (kd nm : ByteArray) : Int := if blocksB l then (if foundB l (keyOf kd nm) (posOf l (keyOf kd nm)) then 0 else 3) else 1
theorem found_get {l : List DBlock} {key : DBlock} {p : Nat} (h : foundB l key p = true) : ∃ x, l[p]? = some x ∧ cmpBl x key = 0 := by
  unfold foundB at h
  cases hx : l[p]? with
  | none => rw [hx] at h; cases h
  | some x => rw [hx] at h; exact ⟨x, rfl, by simpa using h⟩
theorem ret_sc {s t : ByteArray} {c d : Int} (h : s = t) (h' : c = d) : Ending.returned (.tuple #[.string s, .int .i64 c]) = .returned (.tuple #[.string t, .int .i64 d]) := by rw [h, h']
end Go.Proofs.YtnbeomceiealdaaDoor
